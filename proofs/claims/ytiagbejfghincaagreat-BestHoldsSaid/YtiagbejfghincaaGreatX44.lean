/-
  The walks of layer 33's statements: the chapter's examples.
-/
import Derived.Test.YtiagbejfghincaaGreatX40
import Derived.Test.YtiagbejfghincaaGreatX41
import Derived.Test.YtiagbejfghincaaGreatX42
import Derived.Test.YtiagbejfghincaaGreatX43
import Derived.BigQuiet
import Derived.Lib.SlBytesConst
import Derived.Deep.CutRange
import Derived.LoopN
import Derived.Sort.QuietIn
namespace Go.Proofs.YtiagbejfghincaaGreat
open Go.RowKit Go.Port
attribute [local go_sem] Oper.semAt_some
def seven : List Sq := [⟨0, 3, 3⟩, ⟨0, 4, 3⟩, ⟨0, 5, 3⟩, ⟨0, 6, 3⟩, ⟨0, 7, 3⟩, ⟨0, 8, 3⟩, ⟨0, 9, 3⟩]
theorem seven_at {k : Nat} {x : Sq} (h : seven[k]? = some x) : k < 7 ∧ x = ⟨0, 3 + (k : Int), 3⟩ := by
  have hk : k < 7 := (List.getElem?_eq_some_iff.1 h).1
  have : k = 0 ∨ k = 1 ∨ k = 2 ∨ k = 3 ∨ k = 4 ∨ k = 5 ∨ k = 6 := by omega
  refine ⟨hk, ?_⟩
  rcases this with rfl | rfl | rfl | rfl | rfl | rfl | rfl <;> (cases h; rfl)
theorem cand_ex (F : Nat) (w : World) (h : FdAt 76 159 bwd 0 100 9 F w) (p : Int) (l : List Sq) (e : bSteps (allS bwd 0 100 9 p) = l) :
    Calls Tryz.prog 14 #[.pointer (some ⟨F, 0, none⟩), .int .i64 p] w fun e w' => ∃ g a, e = .returned (.func (.func 36) #[] #[.pointer (some ⟨g, 0, none⟩)]) ∧ w.heap.size ≤ g ∧ Blk w' g [.slice a l.length l.length] 38 ∧ CellsAt w' a (l.flatMap sqc) ∧ Below w.heap.size w w' := by
  refine (bcand_any bwd 0 100 9 F p w h).mono ?_
  rw [e]
  rintro e w' ⟨g, a, h1, h2, h3, h4, h5, _⟩
  exact ⟨g, a, h1, h2, h3, h4, h5⟩
theorem min_ex (F M : Nat) (w : World) (hf : FdAt 76 159 bwd 0 100 9 F w) (hp : PrAt w M noC) :
    Calls Tryz.prog 15 #[.pointer (some ⟨F, 0, none⟩), .pointer (some ⟨M, 0, none⟩)] w (RetV w (.tuple #[.int .i64 9248, .int .i64 0])) := by
  have h := bmin_ok bwd 0 100 9 F M noC w hf hp (choices_ok (by decide) (by decide))
  rw [bw_c.1] at h
  exact h
theorem mod_ex (F M : Nat) (w : World) (hf : FdAt 76 159 bwd 0 100 9 F w) (hp : PrAt w M noC) :
    Calls Tryz.prog 18 #[.pointer (some ⟨F, 0, none⟩), .pointer (some ⟨M, 0, none⟩)] w fun e w' => ∃ a c, e = .returned (.tuple #[.slice a 1 c, .int .i64 0]) ∧ CellsAt w' a [.int .i64 3, .int .i64 9, .int .i64 3] ∧ Below w.heap.size w w' := by
  have h := bpm_ok bwd 0 100 9 F M noC w hf hp (choices_ok (by decide) (by decide))
  rw [bw_c.2] at h
  refine h.mono ?_
  rintro e w' ⟨v, rfl, h1, h2⟩
  obtain ⟨a, c, rfl⟩ := own_slice h1
  exact ⟨a, c, rfl, (own_rows h1).1, h2⟩
theorem from12_ex (F M : Nat) (w : World) (hf : FdAt 76 159 bwd 0 100 9 F w) (hp : PrAt w M noC) :
    Calls Tryz.prog 21 #[.pointer (some ⟨F, 0, none⟩), .pointer (some ⟨M, 0, none⟩), .int .i64 12] w fun e w' => ∃ a c, e = .returned (.tuple #[.int .i64 0, .slice a 0 c, .int .i64 0]) ∧ Below w.heap.size w w' := by
  have h := bpf_ok bwd 0 100 9 F M noC w hf hp (choices_ok (by decide) (by decide)) 12 (by decide)
  rw [bw_d, bw_e] at h
  refine Calls.mono (show Calls Tryz.prog 21 #[.pointer (some ⟨F, 0, none⟩), .pointer (some ⟨M, 0, none⟩), .int .i64 12] w _ from h) ?_
  rintro e w' ⟨v, rfl, h1, h2⟩
  obtain ⟨a, c, rfl⟩ := own_slice h1
  exact ⟨a, c, rfl, h2⟩
theorem from13_ex (F M : Nat) (w : World) (hf : FdAt 76 159 bwd 0 100 9 F w) (hp : PrAt w M noC) :
    Calls Tryz.prog 21 #[.pointer (some ⟨F, 0, none⟩), .pointer (some ⟨M, 0, none⟩), .int .i64 13] w (RetV w (.tuple #[.int .i64 0, .slice none 0 0, .int .i64 21])) :=
  bpf_far bwd 0 100 9 F M noC w hf hp (choices_ok (by decide) (by decide)) 13 (.inr (by decide))
theorem fn_nilB (f : Nat) (lb : Array Value) (w : World) : (binOp .eql 41 (.func (.func f) #[] lb) .nilFunc).run Tryz.prog w = .ok (.bool false) w := by kernel_rfl
set_option maxRecDepth 100000 in
set_option maxHeartbeats 8000000 in
theorem works33_any (w : World) : Calls Tryz.prog 12 #[] w (RetV w (.bool true)) := by
  have hcv := Lib.run_convert_bytes_const (P := Tryz.prog) (w.alloc (.cells #[.bool false] 4)) 22 5 #[.int .u8 97, .int .u8 98, .int .u8 99, .int .u8 97, .int .u8 98, .int .u8 99, .int .u8 97, .int .u8 98, .int .u8 99, .int .u8 97, .int .u8 98, .int .u8 99] 12 12 Tryz.underlying22 Tryz.underlying5
  rw [show (w.alloc (.cells #[.bool false] 4)).heap.size = w.heap.size + 1 from by simp] at hcv
  obtain ⟨w0, hw0⟩ : ∃ w0, w0 = (w.alloc (.cells #[.bool false] 4)).alloc (.cells (bwd.map bv).toArray 5 (12, 12 + 1)) := ⟨_, rfl⟩
  have hs1 : (w.alloc (.cells #[.bool false] 4)).heap.size = w.heap.size + 1 := by simp
  have hb0 : Below w.heap.size w w0 := by rw [hw0]; exact (below_new w _).alloc (by simp) _
  have HR0 := hid (show Blk w0 w.heap.size [.bool false] 4 from by rw [hw0]; exact (Blk.new w [.bool false] 4).alloc _)
  have HC0 := hid (show CellsAt w0 (some ⟨w.heap.size + 1, 0, none⟩) (bwd.map bv) from CellsAt.of_const (by rw [hw0]; simp) (fun j u hu => by
    have h := World.alloc_heap_new (w.alloc (.cells #[.bool false] 4)) (.cells (bwd.map bv).toArray 5 (12, 12 + 1))
    rw [hs1, ← hw0] at h
    unfold World.cell?
    show (match w0.heap[w.heap.size + 1]? with
      | some (.cells cs _ _) => cs[j]?
      | _ => none) = some u
    rw [h]
    simpa using hu))
  have HB0 := hid hb0
  have HW0 := hid hw0
  clear hb0 hs1 hw0
  refine (callsIn_wide (n := 1)).1 ?_
  refine callsIn_of_wp_marks Tryz.func12 rfl trivial ?_ rfl
  simp only [Tryz.ntmps12, List.size_toArray, List.length_nil, Nat.reduceSub, Array.replicate_succ, Array.replicate_zero, List.push_toArray, List.append_toArray, List.nil_append, List.cons_append]
  refine wpIn_wide.2 ?_
  go_wp2_with fail
  rw [show (((w.alloc (.cells #[.bool false] 4)).alloc (.cells #[.int .u8 97, .int .u8 98, .int .u8 99, .int .u8 97, .int .u8 98, .int .u8 99, .int .u8 97, .int .u8 98, .int .u8 99, .int .u8 97, .int .u8 98, .int .u8 99] 5 (12, 12 + 1))) : World) = w0 from HW0.out.symm]
  clear HW0
  refine (cnew_ok none (some ⟨w.heap.size + 1, 0, none⟩) 0 12 [] bwd 100 9 w0 (by decide) (by decide) (by decide) (by decide) (by simp) (by simp) (fun j u hu => by simp at hu) HC0.out (by decide) (by decide) (by decide) (by decide)).mono ?_
  rintro e w1 ⟨F, rfl, hF, hb1⟩
  have HF1 := hid (show FdAt 76 159 bwd 0 100 9 F w1 from hF.at)
  have HR1 := hid (HR0.out.below hb1 HR0.out.lt)
  have HB1 := hid (HB0.out.trans (hb1.mono HB0.out.size))
  clear hF hb1 HR0 HB0 HC0
  go_wp2_with fail
  refine (cand_ex F w1 HF1.out 3 seven bw_a).mono ?_
  rintro e w2 ⟨g1, a1, rfl, hg1, hgb, hgc, hb2⟩
  have HF2 := hid (HF1.out.low hb2)
  have HR2 := hid (HR1.out.below hb2 HR1.out.lt)
  have HB2 := hid (HB1.out.trans (hb2.mono HB1.out.size))
  have HG2 := hid hgb
  have HGc2 := hid hgc
  clear hgb hgc hb2 hg1 HF1 HR1 HB1
  go_wp2_with fail
  refine (cand_ex F w2 HF2.out 0 [] bw_b).mono ?_
  rintro e w3 ⟨g2, a2, rfl, hg2, hgb, hgc, hb3⟩
  have HF3 := hid (HF2.out.low hb3)
  have HR3 := hid (HR2.out.below hb3 HR2.out.lt)
  have HB3 := hid (HB2.out.trans (hb3.mono HB2.out.size))
  have HG3 := hid (HG2.out.below hb3 HG2.out.lt)
  have HGc3 := hid (HGc2.out.low hb3)
  have HK3 := hid hgb
  have HKc3 := hid hgc
  have hfn := fun g W => fn_nilB 36 #[.pointer (some ⟨g, 0, none⟩)] W
  clear hgb hgc hb3 hg2 HF2 HR2 HB2 HG2 HGc2
  go_wp2_with (go_at_call 17; refine (num33_any _ _).mono ?_; rintro e w' ⟨rfl, rfl⟩)
  clear hfn
  refine (wpIn_wide (n := 1)).1 ?_
  have hbW : Below w3.heap.size w3 (w3.alloc (.cells #[.int .i64 0] 3)) := below_new w3 _
  have hsz : (w3.alloc (.cells #[.int .i64 0] 3)).heap.size = w3.heap.size + 1 := by simp
  obtain ⟨⟩ : True := trivial
  apply wpIn_rangeStB (gf := 36) (lb := #[.pointer (some ⟨g1, 0, none⟩)]) rfl (enters_of Tryz.func36 (by kernel_rfl) rfl) (encs := encsP)
    (bcand1_seq (fun k => k < w3.heap.size) (fun _ => false) g1 a1 7 seven (w3.alloc (.cells #[.int .i64 0] 3)) (by decide) HG3.out.lt ((HG3.out.below hbW HG3.out.lt).cell (k := 0) rfl) (fun j u hu => by
      obtain ⟨b, off, e, hb, hc⟩ := HGc3.out j u hu
      exact ⟨b, off, e, hb, (hbW.cell (p := ⟨b, off + j, none⟩) hb).trans hc⟩)) (fun _ => rfl)
    (ITc w3 3 9999 false) (IXc w3 3 9999 false 0) (ITc.stays w3 _ 9999 false (by omega)) (fun c => IXc.stays w3 _ 9999 false 0 c (by omega)) (ITc.start w3 _ 9999 false)
    0 (FTc w3 3 9999 false (enumQ seven).length) ITc.fin IXc.fin (fun _ _ h => h) (fun x => sqc x.2) 44
  case hassign =>
    intro l' pre x W K hI hSp hK
    unfold encsP sqv
    obtain ⟨q, hq⟩ : ∃ q, q = W.heap.size := ⟨_, rfl⟩
    have HK := hid (hK q hq)
    have HQ := hid hq
    clear hK hI hSp hq
    gi_wp2
    rw [← HQ.out]
    exact HK.out
  case hbody =>
    rintro l' pre ⟨x1, x⟩ q W hI hq hSp
    obtain ⟨hn1, hx1⟩ := enumQ_next hSp
    dsimp only at hn1 hx1
    subst hx1
    obtain ⟨hn2, rfl⟩ := seven_at hn1
    have hcn := hI.n.cell (k := 0) rfl
    have hzn := hI.n.frozen 0
    have q0 := hq.cell (k := 0) rfl
    have q1 := hq.cell (k := 1) rfl
    have q2 := hq.cell (k := 2) rfl
    dsimp only [sqc] at q0 q1 q2
    have HI := hid hI
    have hw3 : IntKind.i64.wrap (3 + (pre.length : Int)) = 3 + (pre.length : Int) := by rw [IntKind.wrap_i64]; omega
    have hw4 : IntKind.i64.wrap ((pre.length : Int) + 1) = (pre.length : Int) + 1 := by rw [IntKind.wrap_i64]; omega
    clear hI hSp hn1 hq
    have HR := hid (HI.out.round (((pre.length : Int)), (⟨0, 3 + (pre.length : Int), 3⟩ : Sq)) (fun _ => false) 0 (.int .i64 ((pre.length : Int) + 1)) rfl)
    gi_wp2
    exact ⟨by first | exact HR.out.1 | (rw [hsz]; exact HR.out.1), ITc.late HR.out.2.1 HR.out.2.2⟩
  case hrest =>
    rintro D1 xs W hDD hF hK
    have hf := hF.two rfl
    have HF4 := hid (HF3.out.low hF.low)
    have HR4 := hid (HR3.out.below hF.low HR3.out.lt)
    have HB4 := hid (HB3.out.trans (hF.low.mono HB3.out.size))
    have HK4 := hid (HK3.out.below hF.low HK3.out.lt)
    have HKc4 := hid (HKc3.out.low hF.low)
    have HN4 := hid (show Blk W w3.heap.size [.int .i64 7] 3 from by have h := hF.n; rw [hf] at h; exact h)
    have HD1 := hid hK
    have HDl := hid (show w.heap.size < D1 from Nat.lt_of_lt_of_le HR3.out.lt (by omega))
    clear hF hK hf hDD hbW hsz HF3 HR3 HB3 HK3 HKc3 HG3 HGc3
    generalize W = w4 at *
    generalize w3.heap.size = N at *
    go_wp2_with fail
    refine (wpIn_wide (n := 1)).1 ?_
    apply wpIn_rangeStA (gf := 36) (lb := #[.pointer (some ⟨g2, 0, none⟩)]) rfl (enters_of Tryz.func36 (by kernel_rfl) rfl) (encs := encsP)
      (bcand1_seq (fun k => k < w4.heap.size) (fun _ => false) g2 a2 0 [] w4 (by decide) HK4.out.lt (HK4.out.cell (k := 0) rfl) (fun j u hu => by simp at hu)) (fun _ => rfl)
      (fun _ W => Below w4.heap.size w4 W) (fun _ _ _ => False) (fun _ _ _ _ h hg hr => h.grown hg h.size (fun k hk => (hr _ hk).1)) (fun _ _ _ _ _ h _ _ => h) (Below.refl _ _)
      2 (fun _ W => Below w4.heap.size w4 W) (fun _ _ _ h => h) (fun _ _ _ _ h => h.elim) (fun _ _ h => h)
    case hassign =>
      intro l' x W K hK
      unfold encsP
      gi_wp2
      exact hK
    case hbody =>
      rintro l' pre x W hI ⟨rest, hSp⟩
      exact absurd hSp (by simp [enumQ])
    case hrest =>
      rintro D2 xs2 W hDD hF hK
      have HF5 := hid (HF4.out.low hF)
      have HR5 := hid (HR4.out.below hF HR4.out.lt)
      have HB5 := hid (HB4.out.trans (hF.mono HB4.out.size))
      have HN5 := hid (HN4.out.below hF HN4.out.lt)
      have HE1 := hid (at_low' hF HD1.out)
      have HE2 := hid hK
      have HEl := hid (show D1 < D2 from Nat.lt_of_lt_of_le (Array.getElem?_eq_some_iff.1 HD1.out).1 hDD)
      clear hF hK hDD HF4 HR4 HB4 HK4 HKc4 HN4 HD1
      generalize W = w5 at *
      go_wp2_with fail
      refine (pruniform_any w5).mono ?_
      rintro e w6 ⟨M, rfl, hM, _, hb6⟩
      have HM6 := hid hM
      have HF6 := hid (HF5.out.low hb6)
      have HR6 := hid (HR5.out.below hb6 HR5.out.lt)
      have HB6 := hid (HB5.out.trans (hb6.mono HB5.out.size))
      have HN6 := hid (HN5.out.below hb6 HN5.out.lt)
      have HE16 := hid (at_low' hb6 HE1.out)
      have HE26 := hid (at_low' hb6 HE2.out)
      clear hM hb6 HF5 HR5 HB5 HN5 HE1 HE2
      go_wp2_with fail
      refine (min_ex F M w6 HF6.out HM6.out).mono ?_
      rintro e w7 ⟨rfl, hb7⟩
      have HM7 := hid (HM6.out.low hb7)
      have HF7 := hid (HF6.out.low hb7)
      have HR7 := hid (HR6.out.below hb7 HR6.out.lt)
      have HN7 := hid (HN6.out.below hb7 HN6.out.lt)
      have HB7 := hid (HB6.out.trans (hb7.mono HB6.out.size))
      have HE17 := hid (at_low' hb7 HE16.out)
      have HE27 := hid (at_low' hb7 HE26.out)
      clear hb7 HM6 HF6 HR6 HN6 HB6 HE16 HE26
      go_wp2_with fail
      refine (mod_ex F M w7 HF7.out HM7.out).mono ?_
      rintro e w8 ⟨aq, cq, rfl, hcq, hb8⟩
      have HC8 := hid hcq
      clear hcq
      have HM8 := hid (HM7.out.low hb8)
      have HF8 := hid (HF7.out.low hb8)
      have HR8 := hid (HR7.out.below hb8 HR7.out.lt)
      have HN8 := hid (HN7.out.below hb8 HN7.out.lt)
      have HB8 := hid (HB7.out.trans (hb8.mono HB7.out.size))
      have HE18 := hid (at_low' hb8 HE17.out)
      have HE28 := hid (at_low' hb8 HE27.out)
      clear hb8 HM7 HF7 HR7 HN7 HB7 HE17 HE27
      go_wp2_with fail
      refine (from12_ex F M w8 HF8.out HM8.out).mono ?_
      rintro e w9 ⟨av, cv, rfl, hb9⟩
      have HM9 := hid (HM8.out.low hb9)
      have HF9 := hid (HF8.out.low hb9)
      have HR9 := hid (HR8.out.below hb9 HR8.out.lt)
      have HN9 := hid (HN8.out.below hb9 HN8.out.lt)
      have HB9 := hid (HB8.out.trans (hb9.mono HB8.out.size))
      have HE19 := hid (at_low' hb9 HE18.out)
      have HE29 := hid (at_low' hb9 HE28.out)
      have HC9 := hid (HC8.out.low hb9)
      clear hb9 HM8 HF8 HR8 HN8 HB8 HE18 HE28
      go_wp2_with fail
      refine (from13_ex F M w9 HF9.out HM9.out).mono ?_
      rintro e w10 ⟨rfl, hb10⟩
      have HM10 := hid (HM9.out.low hb10)
      have HF10 := hid (HF9.out.low hb10)
      have HR10 := hid (HR9.out.below hb10 HR9.out.lt)
      have HN10 := hid (HN9.out.below hb10 HN9.out.lt)
      have HB10 := hid (HB9.out.trans (hb10.mono HB9.out.size))
      have HE110 := hid (at_low' hb10 HE19.out)
      have HE210 := hid (at_low' hb10 HE29.out)
      have HCq := hid (HC9.out.low hb10)
      clear hb10 HM9 HF9 HR9 HN9 HB9 HE19 HE29
      obtain ⟨bl, off, rfl, hb0, c0⟩ := HCq.out 0 _ rfl
      obtain ⟨_, _, e1, _, c1⟩ := HCq.out 1 _ rfl
      cases e1
      obtain ⟨_, _, e2, _, c2⟩ := HCq.out 2 _ rfl
      cases e2
      rw [Nat.add_zero] at c0
      have cn := HN10.out.cell (k := 0) rfl
      have r10 := HR10.out.cell (k := 0) rfl
      have z10 := HR10.out.frozen 0
      go_wp2_with (go_at_call 17; refine (num33_any _ _).mono ?_; rintro e w' ⟨rfl, rfl⟩)
      have hrs := HR10.out.set 0 (.bool true)
      have hbs := HB10.out.setCell (p := ⟨w.heap.size, 0, none⟩) (Nat.le_refl _) (.bool true)
      have hl1 := HDl.out
      have hl2 := HEl.out
      have hK2 : (w10.setCell ⟨w.heap.size, 0, none⟩ (.bool true)).heap[D2]? = some (.deferred (some [])) := (Below.heap_setCell _ _ _ _ (by dsimp only; omega)).trans HE210.out
      have hK1 : (w10.setCell ⟨w.heap.size, 0, none⟩ (.bool true)).heap[D1]? = some (.deferred (some [])) := (Below.heap_setCell _ _ _ _ (by dsimp only; omega)).trans HE110.out
      clear c0 c1 c2 cn r10 z10
      generalize w10.setCell ⟨w.heap.size, 0, none⟩ (.bool true) = W9 at *
      refine ⟨by simp, .inl ⟨_, _, rfl, run_takeDeferred hK2, ?_⟩⟩
      have hK1b := fun o => (World.putObj_heap_other (w := W9) (r := D2) (o := o) (k := D1) (by omega)).trans hK1
      refine ⟨by simp, .inl ⟨_, _, rfl, run_takeDeferred (hK1b _), ?_⟩⟩
      have k1 : ∀ o o', Blk ((W9.putObj D2 o).putObj D1 o') w.heap.size [.bool true] 4 := fun o o' => (World.putObj_heap_other (by omega)).trans ((World.putObj_heap_other (by omega)).trans hrs)
      have q1 := fun o o' => (k1 o o').cell (k := 0) rfl
      have hsz9 := hbs.size
      have hb9 := fun o => hbs.grown (grownBy_putObj' W9 D2 o) hsz9 (fun k hk => by cases hk; omega)
      refine ⟨.bool true, by simp [results, Tryz.results12, go_sem, q1], rfl, (hb9 _).grown (grownBy_putObj' _ _ _) (hb9 _).size (fun k hk => by cases hk; omega)⟩
end Go.Proofs.YtiagbejfghincaaGreat
