/-
  The walks of layer 33 (best): the iterator over the minimal costs.
  The walks of layer 33 (best): absent finders and cost models.
  The walks of layer 33 (best): Parse.
-/
import Derived.Test.YtiagbejfghincaaGreatY37
import Derived.Test.YtiagbejfghincaaGreatY38
import Derived.Test.YtiagbejfghincaaGreatY46
import Derived.Test.YtiagbejfghincaaGreatY17
import Derived.OwnWalkIn
import Derived.TacticsInMore
import Derived.LoopNIn
import Derived.LoopIn
import Derived.WalkMore
import Derived.LoopN
namespace Go.Port
open Go.RowKit
def enumI (l : List Int) : List (Int × Int) := l.zipIdx.map fun p => ((p.2 : Int), p.1)
theorem enumI_snoc (l : List Int) (x : Int) : enumI (l ++ [x]) = enumI l ++ [((l.length : Int), x)] := by
  unfold enumI
  rw [List.zipIdx_append, List.map_append]
  simp
theorem enumI_length (l : List Int) : (enumI l).length = l.length := by simp [enumI]
theorem enumI_take {l : List Int} {k : Nat} {x : Int} (h : l[k]? = some x) : enumI (l.take (k + 1)) = enumI (l.take k) ++ [((k : Int), x)] := by
  obtain ⟨h1, h2⟩ := List.getElem?_eq_some_iff.1 h
  rw [List.take_succ_eq_append_getElem h1, h2, enumI_snoc, List.length_take, Nat.min_eq_left (Nat.le_of_lt h1)]
theorem enumI_pre (l : List Int) (k : Nat) : ∃ rest, enumI (l.take k) ++ rest = enumI l := by
  refine ⟨(enumI l).drop k, ?_⟩
  have : enumI (l.take k) = (enumI l).take k := by
    unfold enumI
    rw [← List.map_take]
    congr 1
    apply List.ext_getElem?
    intro j
    rw [List.getElem?_take, List.getElem?_zipIdx, List.getElem?_zipIdx, List.getElem?_take]
    split <;> rfl
  rw [this]
  exact List.take_append_drop k _
theorem enumI_get {l : List Int} {k : Nat} {x : Int × Int} (h : (enumI l)[k]? = some x) : x.1 = (k : Int) ∧ l[k]? = some x.2 := by
  unfold enumI at h
  rw [List.getElem?_map, List.getElem?_zipIdx] at h
  cases h2 : l[k]? with
  | none => rw [h2] at h; simp at h
  | some y =>
    rw [h2] at h
    simp only [Option.map_some, Option.some.injEq] at h
    subst h
    exact ⟨by simp, rfl⟩
end Go.Port
namespace Go.Proofs.YtiagbejfghincaaGreat
open Go.RowKit Go.Port
attribute [local go_sem] Oper.semAt_some
set_option maxRecDepth 100000 in
set_option maxHeartbeats 4000000 in
theorem bcosts1_seq (X : Nat → Prop) (T : TypeId → Bool) (qe qt Tb gc c : Nat) (cs : List Int) (w0 : World) (hl : cs.length ≤ 1000001) (h1 : X qe) (h2 : X qt) (h3 : X Tb) (h4 : X gc) (b1 : w0.cell? ⟨qe, 0, none⟩ = some (.int .i64 0)) (b2 : w0.cell? ⟨qt, 0, none⟩ = some (.pointer (some ⟨Tb, 0, none⟩)))
    (b3 : w0.cell? ⟨Tb, 0, none⟩ = some (.slice (some ⟨gc, 0, none⟩) cs.length c)) (b4 : ∀ j u, (cs.map iv)[j]? = some u → w0.cell? ⟨gc, j, none⟩ = some u) :
    SeqSt Tryz.prog 43 #[.pointer (some ⟨qe, 0, none⟩), .pointer (some ⟨qt, 0, none⟩)] (fun x : Int × Int => #[.int .i64 x.1, .int .i64 x.2]) (fun xs => xs = enumI cs) (fun xs => ∃ rest, xs ++ rest = enumI cs) X T w0 := by
  intro lp J Jx W hW hJ hJx hY hJ0
  have hT0 : TrX X w0 W := TrX.low hW
  have c1 := hT0 _ _ (show X (⟨qe, 0, none⟩ : Addr).block from h1) b1
  have c2 := hT0 _ _ (show X (⟨qt, 0, none⟩ : Addr).block from h2) b2
  have c3 := hT0 _ _ (show X (⟨Tb, 0, none⟩ : Addr).block from h3) b3
  have c3l := World.block_lt_of_cell? W _ c3
  dsimp only at c3l
  have HC := hid (fun (W' : World) (hT : TrX X w0 W') j u hu => hT ⟨gc, j, none⟩ u h4 (b4 j u hu))
  have HY := hid hY
  have HJ := hid hJ
  have hT := hT0
  clear b1 b2 b3 b4 hY hT0 hJx hJ
  refine callsIn_of_wp Tryz.func43 rfl trivial ?_ rfl
  simp only [Tryz.ntmps43, List.size_toArray, List.length_cons, List.length_nil, Nat.reduceAdd, Nat.reduceSub, Array.replicate_succ, Array.replicate_zero, List.push_toArray, List.append_toArray, List.nil_append, List.cons_append]
  gi_wp2
  refine wpIn_wide.2 (wp_scope_straight ((wpIn_wide (n := 0)).1 ?_))
  gi_wp2
  refine wpIn_label ?_
  gi_wp2
  gi_loopw [14] (fun i wr => ∃ (k : Nat), k ≤ cs.length ∧ i = .int .i64 k ∧ J (enumI (cs.take k)) wr ∧ TrX X w0 wr) (fun i _ => cs.length - (intOf i).toNat)
  case atStart => exact ⟨0, Nat.zero_le _, rfl, hJ0, hT⟩
  case round =>
    clear c1 c2 c3 c3l
    obtain ⟨k, hk, rfl, hJk, hTr⟩ := hrel
    by_cases hlt : k < cs.length
    · obtain ⟨x, hx⟩ : ∃ x, cs[k]? = some x := ⟨cs[k], by simp [hlt]⟩
      have c0 := HC.out wr hTr k (.int .i64 x) (by rw [List.getElem?_map, hx]; rfl)
      have HST := hid (enumI_take hx)
      have HPre := hid (enumI_pre cs (k + 1))
      have HT := hid hTr
      have HK := hid hlt
      have HJk := hid hJk
      clear hx hTr hJk hk hlt
      have tk : (k : Int) < (cs.length : Int) := by have := HK.out; omega
      obtain ⟨fn, tmps, assign, body, hy, hRy⟩ := HY.out (enumI (cs.take k)) ((k : Int), x) _ HJk.out (by rw [← HST.out]; exact HPre.out)
      have hy2 : (Instr.yield lp #[.int .i64 (k : Int), .int .i64 x]).run Tryz.prog wr = .ok (.round lp fn tmps assign body) wr := hy
      have HRy := hid hRy
      clear hy hRy
      gi_wp2
      refine ⟨rfl, HRy.out.mono ?_⟩
      rintro e w2 ⟨hkp, (⟨rfl, hJ2⟩ | ⟨rfl, hJx2⟩)⟩
      · gi_wp2
        go_roundw
        case rel =>
          refine ⟨k + 1, HK.out, by go_num, ?_, HT.out.trans (TrX.of_keeps hkp)⟩
          rw [HST.out]
          exact hJ2
        case measure =>
          have := HK.out
          simp [intOf]; omega
      · have HE := hid (show ∃ rest, (enumI (cs.take k) ++ [((k : Int), x)]) ++ rest = enumI cs from by rw [← HST.out]; exact HPre.out)
        gi_wp2
        simp only [Exit.noGoto_normal]
        refine bodyPost_end (results_none rfl _ _ _) rfl ?_
        exact ⟨⟨_, rfl⟩, .inr ⟨_, HE.out, hJx2⟩⟩
    · obtain rfl : k = cs.length := by omega
      rw [List.take_of_length_le (Nat.le_refl _)] at hJk
      gi_wp2
      simp only [Exit.noGoto_normal]
      refine bodyPost_end (results_none rfl _ _ _) rfl ?_
      exact ⟨⟨_, rfl⟩, .inl ⟨_, rfl, hJk⟩⟩
set_option maxRecDepth 100000 in
set_option maxHeartbeats 4000000 in
theorem bcosts1_none (X : Nat → Prop) (T : TypeId → Bool) (qe : Nat) (vt : Value) (w0 : World) (h1 : X qe) (b1 : w0.cell? ⟨qe, 0, none⟩ = some (.int .i64 1)) :
    SeqSt Tryz.prog 43 #[.pointer (some ⟨qe, 0, none⟩), vt] (fun x : Int × Int => #[.int .i64 x.1, .int .i64 x.2]) (fun xs => xs = enumI []) (fun xs => ∃ rest, xs ++ rest = enumI []) X T w0 := by
  intro lp J Jx W hW hJ hJx hY hJ0
  have hT0 : TrX X w0 W := TrX.low hW
  have c1 := hT0 _ _ (show X (⟨qe, 0, none⟩ : Addr).block from h1) b1
  have HJ0 := hid hJ0
  clear b1 hY hT0 hJx hJ hJ0
  refine callsIn_of_wp Tryz.func43 rfl trivial ?_ rfl
  simp only [Tryz.ntmps43, List.size_toArray, List.length_cons, List.length_nil, Nat.reduceAdd, Nat.reduceSub, Array.replicate_succ, Array.replicate_zero, List.push_toArray, List.append_toArray, List.nil_append, List.cons_append]
  gi_wp2
  refine wpIn_wide.2 (wp_scope_straight ((wpIn_wide (n := 0)).1 ?_))
  gi_wp2
  simp only [Exit.noGoto_ret]
  refine bodyPost_ret (v := .tuple #[]) (by simp [results, Tryz.results43, go_sem]) rfl ?_
  exact ⟨⟨_, rfl⟩, .inl ⟨_, rfl, HJ0.out⟩⟩
set_option maxRecDepth 100000 in
theorem bcosts_ok (bs : List UInt8) (A : Nat) (Wd D : Int) (F M : Nat) (C : Nat → List Int) (w : World) (hf : FdAt 76 159 bs A Wd D F w) (hp : PrAt w M C) (hch : Choices (bs.drop A).length (chF bs A Wd D)) :
    Calls Tryz.prog 22 #[.pointer (some ⟨F, 0, none⟩), .pointer (some ⟨M, 0, none⟩)] w fun e w' => ∃ qe qt Tb gc gf, e = .returned (.func (.func 43) #[] #[.pointer (some ⟨qe, 0, none⟩), .pointer (some ⟨qt, 0, none⟩)]) ∧ Below w.heap.size w w' ∧ w.heap.size ≤ qe ∧ w.heap.size ≤ qt ∧ w.heap.size ≤ Tb ∧ w.heap.size ≤ gc ∧
      Blk w' qe [.int .i64 0] 46 ∧ Blk w' qt [.pointer (some ⟨Tb, 0, none⟩)] 94 ∧ TabR w' Tb gc gf (tabF C bs A Wd D) := by
  have HTa := hid (btab_r bs A Wd D F M C w hf hp hch)
  have hmf : ∀ (fn : Fn) (first cap : Array Value) (w : World), (Instr.makeFunc fn first cap).run Tryz.prog w = .ok (.func fn first cap) w := fun _ _ _ _ => rfl
  clear hf hp hch
  go_enter Tryz.func22, Tryz.ntmps22
  go_wp2_with fail
  refine HTa.out.mono ?_
  rintro e w2 ⟨T, gc, gf, rfl, hb2, hT, hc, hR⟩
  have h1 := below_new w2 (.cells #[.pointer (some ⟨T, 0, none⟩)] 94)
  have h2 := h1.alloc h1.size (.cells #[.int .i64 0] 46)
  have HB2 := hid (hb2.trans (h2.mono hb2.size))
  have HR := hid (hR.low h2)
  have HTw := hid (And.intro hT (And.intro hc hb2.size))
  have HE1 := hid (show Blk ((w2.alloc (.cells #[.pointer (some ⟨T, 0, none⟩)] 94)).alloc (.cells #[.int .i64 0] 46)) w2.heap.size [.pointer (some ⟨T, 0, none⟩)] 94 from (Blk.newAt rfl).alloc _)
  have HE2 := hid (show Blk ((w2.alloc (.cells #[.pointer (some ⟨T, 0, none⟩)] 94)).alloc (.cells #[.int .i64 0] 46)) (w2.heap.size + 1) [.int .i64 0] 46 from Blk.newAt (by simp))
  clear h1 h2 hb2 hT hc hR
  go_wp2
  go_ret
  have hs := HTw.out.2.2
  exact ⟨w2.heap.size + 1, w2.heap.size, T, gc, gf, rfl, HB2.out, by omega, hs, HTw.out.1, HTw.out.2.1, HE2.out, HE1.out, HR.out⟩
set_option maxRecDepth 100000 in
theorem bcosts_none (pf pp : Option Addr) (w : World) (hh : Calls Tryz.prog 40 #[.pointer pf, .pointer pp] w (RetV w (.tuple #[.pointer none, .int .i64 1]))) :
    Calls Tryz.prog 22 #[.pointer pf, .pointer pp] w fun e w' => ∃ qe vt, e = .returned (.func (.func 43) #[] #[.pointer (some ⟨qe, 0, none⟩), vt]) ∧ Below w.heap.size w w' ∧ w.heap.size ≤ qe ∧ Blk w' qe [.int .i64 1] 46 := by
  have HTa := hid hh
  have hmf : ∀ (fn : Fn) (first cap : Array Value) (w : World), (Instr.makeFunc fn first cap).run Tryz.prog w = .ok (.func fn first cap) w := fun _ _ _ _ => rfl
  clear hh
  go_enter Tryz.func22, Tryz.ntmps22
  go_wp2_with fail
  refine HTa.out.mono ?_
  rintro e w2 ⟨rfl, hb2⟩
  have h1 := below_new w2 (.cells #[.pointer none] 94)
  have h2 := h1.alloc h1.size (.cells #[.int .i64 1] 46)
  have HB2 := hid (hb2.trans (h2.mono hb2.size))
  have HTw := hid hb2.size
  have HE2 := hid (show Blk ((w2.alloc (.cells #[.pointer none] 94)).alloc (.cells #[.int .i64 1] 46)) (w2.heap.size + 1) [.int .i64 1] 46 from Blk.newAt (by simp))
  clear h1 h2 hb2
  go_wp2
  go_ret
  have hs := HTw.out
  exact ⟨w2.heap.size + 1, _, rfl, HB2.out, by omega, HE2.out⟩
set_option maxRecDepth 100000 in
set_option maxHeartbeats 4000000 in
theorem btabled_none (pf pp : Option Addr) (w : World) (hn : ∀ W, Below w.heap.size w W → Calls Tryz.prog 75 #[.pointer pf, .pointer pp] W (RetV W (.bool true))) :
    Calls Tryz.prog 40 #[.pointer pf, .pointer pp] w (RetV w (.tuple #[.pointer none, .int .i64 1])) := by
  have HNo := hid hn
  clear hn
  have hP3 := (((Blk.newAt rfl : Blk (w.alloc (.cells #[.pointer pp] 28)) w.heap.size [.pointer pp] 28).alloc (.cells #[.pointer none] 94)).alloc (.cells #[.slice none 0 0] 22))
  have hT3 := ((Blk.newAt (by simp) : Blk ((w.alloc (.cells #[.pointer pp] 28)).alloc (.cells #[.pointer none] 94)) (w.heap.size + 1) [.pointer none] 94).alloc (.cells #[.slice none 0 0] 22))
  have hB3 : Below w.heap.size w (((w.alloc (.cells #[.pointer pp] 28)).alloc (.cells #[.pointer none] 94)).alloc (.cells #[.slice none 0 0] 22)) := ((below_new w _).alloc (by simp) _).alloc (by simp; omega) _
  have HT3 := hid hT3
  have HB3 := hid hB3
  have p3 := hP3.cell (k := 0) rfl
  clear hP3 hT3 hB3
  go_enter Tryz.func40, Tryz.ntmps40
  go_wp2_with fail
  refine wp_scope_jumps 0 (fun a' w' => (∃ x0 x1 x2 x3 x6 x7 x8 x9 x10 x11 x12 x13 x14 x15 x16 x17 x18 x19 x20 x21 x22 x23 x24 x25 x26 x27 x28 x29 x30 x31 x32 x33 x34 x35 x36 x37 x38 x39 x40 x41 x42 x43 x44 x45 x46 x47 x48 x49 x50 x51 x52 x53 x54 x55 x56 x57 : Value, a' = { tmps := #[x0, x1, x2, x3, .pointer (some ⟨w.heap.size + 1, 0, none⟩), .int .i64 1, x6, x7, x8, x9, x10, x11, x12, x13, x14, x15, x16, x17, x18, x19, x20, x21, x22, x23, x24, x25, x26, x27, x28, x29, x30, x31, x32, x33, x34, x35, x36, x37, x38, x39, x40, x41, x42, x43, x44, x45, x46, x47, x48, x49, x50, x51, x52, x53, x54, x55, x56, x57], defers := [] }) ∧ Blk w' (w.heap.size + 1) [.pointer none] 94 ∧ Below w.heap.size w w') (fun _ _ => 0) rfl ?first ?pass
  case first =>
    go_wp2_with fail
    generalize ((w.alloc (.cells #[.pointer pp] 28)).alloc (.cells #[.pointer none] 94)).alloc (.cells #[.slice none 0 0] 22) = w3 at *
    refine (HNo.out _ HB3.out).mono ?_
    rintro e w4 ⟨rfl, hb4⟩
    have HT4 := hid (HT3.out.below hb4 HT3.out.lt)
    have HB4 := hid (HB3.out.trans (hb4.mono HB3.out.size))
    clear hb4 p3
    go_wp2
    refine wp_goto ?_
    refine And.intro (rfl : 0 = 0) ?_
    refine ⟨?_, HT4.out, HB4.out⟩
    repeat apply Exists.intro
    rfl
  case pass =>
    rintro a1 w1 ⟨⟨x0, x1, x2, x3, x6, x7, x8, x9, x10, x11, x12, x13, x14, x15, x16, x17, x18, x19, x20, x21, x22, x23, x24, x25, x26, x27, x28, x29, x30, x31, x32, x33, x34, x35, x36, x37, x38, x39, x40, x41, x42, x43, x44, x45, x46, x47, x48, x49, x50, x51, x52, x53, x54, x55, x56, x57, rfl⟩, hT, hB⟩
    have HT := hid hT
    have HB := hid hB
    have c0 := hT.cell (k := 0) rfl
    have z0 := hT.frozen 0
    have HT5 := hid (hT.set 0 (.pointer none))
    have HB5 := hid (hB.setCell (p := ⟨w.heap.size + 1, 0, none⟩) (Nat.le_succ _) (.pointer none))
    clear hT hB
    go_wp2
    simp only [Exit.jump]
    have c5 := HT5.out.cell (k := 0) rfl
    refine bodyPost_ret (v := .tuple #[.pointer none, .int .i64 1]) (by simp [results, Tryz.results40, go_sem, c5]) rfl ?_
    exact ⟨rfl, HB5.out⟩
end Go.Proofs.YtiagbejfghincaaGreat
namespace Go.Proofs.YtiagbejfghincaaGreat
open Go.RowKit Go.Port
theorem NoFd.low {p : Option Addr} {w w' : World} (h : NoFd p w) (hb : Below w.heap.size w w') : NoFd p w' := by
  rcases h with h | ⟨F, h1, h2⟩
  · exact .inl h
  · exact .inr ⟨F, h1, h2.below hb h2.lt⟩
theorem cown_none (p : Option Addr) (q : Int) (w : World) (h : NoFd p w) :
    Calls Tryz.prog 99 #[.pointer p, .int .i64 q] w fun e w' => e = .returned (.tuple #[.int .i64 0, .bool false]) ∧ w = w' := by
  have HN := hid h.none
  clear h
  go_enter Tryz.func99, Tryz.ntmps99
  go_wp2_with (go_at_call 79; refine HN.out.mono ?_; rintro e w' ⟨rfl, rfl⟩)
  go_ret2
  exact ⟨rfl, rfl⟩
set_option maxRecDepth 100000 in
theorem call_none (p : Option Addr) (q : Int) (w : World) (h : NoFd p w) :
    Calls Tryz.prog 70 #[.pointer p, .int .i64 q] w fun e w' => ∃ g a c, e = .returned (.func (.func 102) #[] #[.pointer (some ⟨g, 0, none⟩)]) ∧ w.heap.size ≤ g ∧ Blk w' g [.slice a ([] : List Sq).length c] 38 ∧ CellsAt w' a (([] : List Sq).flatMap sqc) ∧ ([] : List Sq).length ≤ c ∧ Below w.heap.size w w' ∧ ∀ x, a = some x → w.heap.size ≤ x.block := by
  have hmf : ∀ (fn : Fn) (first cap : Array Value) (w : World), (Instr.makeFunc fn first cap).run Tryz.prog w = .ok (.func fn first cap) w := fun _ _ _ _ => rfl
  have hb0 := below_new w (.cells #[.slice none 0 0] 38)
  have HO := hid (cown_none p q _ (h.low hb0))
  have HX := hid (Blk.new w [.slice none 0 0] 38)
  have HB := hid hb0
  clear h hb0
  go_enter Tryz.func70, Tryz.ntmps70
  go_wp2_with (go_at_call 99; refine HO.out.mono ?_; rintro e w' ⟨rfl, rfl⟩)
  go_ret
  exact ⟨w.heap.size, none, 0, rfl, Nat.le_refl _, HX.out, fun j u hu => by simp at hu, Nat.le_refl _, HB.out, fun x hx => by cases hx⟩
theorem bcand_none (p : Option Addr) (q : Int) (w : World) (h : NoFd p w) :
    Calls Tryz.prog 14 #[.pointer p, .int .i64 q] w fun e w' => ∃ g a, e = .returned (.func (.func 36) #[] #[.pointer (some ⟨g, 0, none⟩)]) ∧ w.heap.size ≤ g ∧ Blk w' g [.slice a 0 0] 38 ∧ Below w.heap.size w w' := by
  refine (bcand_gen p q (bSteps []) w (bsteps_gen p q [] (by decide) w (fun W hW => call_none p q W (h.low hW)))).mono ?_
  rintro e w' ⟨g, a, h1, h2, h3, _, h5, _⟩
  exact ⟨g, a, h1, h2, h3, h5⟩
theorem btab_nof (p : Option Addr) (M : Nat) (C : Nat → List Int) (w : World) (h : NoFd p w) (hp : PrAt w M C) :
    Calls Tryz.prog 40 #[.pointer p, .pointer (some ⟨M, 0, none⟩)] w (RetV w (.tuple #[.pointer none, .int .i64 1])) :=
  btabled_none _ _ w fun W hW => by
    obtain ⟨x, hx⟩ := numC_zero C
    have hl := prll_any W M C (hp.low hW) 0
    rw [hx] at hl
    exact bnone_nof p _ W (fun W2 hW2 => (h.low hW).low hW2) _ hl ⟨x, 0, rfl⟩
theorem btab_nop (bs : List UInt8) (A : Nat) (Wd D : Int) (F : Nat) (pp : Option Addr) (w : World) (h : FdAt 76 159 bs A Wd D F w) (hp : NoPr w pp) :
    Calls Tryz.prog 40 #[.pointer (some ⟨F, 0, none⟩), .pointer pp] w (RetV w (.tuple #[.pointer none, .int .i64 1])) :=
  btabled_none _ _ w fun W hW => bnone_nop bs A Wd D F pp W (h.low hW) (hp.low hW)
end Go.Proofs.YtiagbejfghincaaGreat
namespace Go.Proofs.YtiagbejfghincaaGreat
open Go.RowKit Go.Port
theorem own_data {w : World} {base n : Nat} {e : TypeId} {ad : Option Addr} {m c : Nat} {xs : List Value} (h : w.ownsRow base e 1 (.slice ad m c) n xs) : m = n ∧ n ≤ c ∧ (ad = none → c = 0) ∧ c ≤ maxLen ∧ CellsAt w ad xs := by
  refine ⟨?_, ?_, ?_, ?_, ?_⟩
  · rcases h.2 with ⟨h1, h2⟩ | ⟨g, cap, cur, h1, _⟩ <;> cases h1
    · exact h2.symm
    · rfl
  · rcases h.2 with ⟨h1, h2⟩ | ⟨g, cap, cur, h1, _, _, h4, _⟩ <;> cases h1
    · omega
    · exact h4
  · rcases h.2 with ⟨h1, h2⟩ | ⟨g, cap, cur, h1, _⟩ <;> cases h1
    · exact fun _ => rfl
    · intro e; cases e
  · rcases h.2 with ⟨h1, h2⟩ | ⟨g, cap, cur, h1, _, _, _, h5, _⟩ <;> cases h1
    · exact Nat.zero_le _
    · exact h5
  · exact (Sl.of_owns h).cells' rfl
theorem fdf {C : Nat → List Int} (hC : ∀ k, k < 4 → HistOk k (C k)) {bs : List UInt8} {A : Nat} {Wd D : Int} (hA : A ≤ bs.length) (hW : Wd ≤ 134217728) (hn : (bs.drop A).length ≤ 200) : plitsO (bs.drop A) (planF C bs A Wd D 0) = true ∧ (∀ s ∈ planF C bs A Wd D 0, offOk s = true) ∧ (planF C bs A Wd D 0).length ≤ 200 := by
  have h := planF_is hC (bs := bs) (A := A) (Wd := Wd) (D := D) hA hW (Nat.le_trans hn (by decide)) (p := 0) (Nat.zero_le _)
  rw [List.drop_zero] at h
  refine ⟨h.2.1, fun s hs => ?_, Nat.le_trans h.1 hn⟩
  have h2 := isPath_mem (choices_ok hA hW) _ _ h.2.2.2 s hs
  unfold offOk
  simp only [Bool.and_eq_true, decide_eq_true_eq]
  omega
def planP (bs : List UInt8) (A : Nat) (Wd D : Int) : Nat → List Int := planC (bs.drop A) (planF noC bs A Wd D 0)
set_option maxRecDepth 100000 in
set_option maxHeartbeats 8000000 in
theorem bparse_ok (bs : List UInt8) (A : Nat) (Wd D : Int) (F : Nat) (w : World) (hf : FdAt 76 159 bs A Wd D F w) (hn : (bs.drop A).length ≤ 200) :
    Calls Tryz.prog 26 #[.pointer (some ⟨F, 0, none⟩)] w fun e w' => ∃ al cl, e = .returned (.tuple #[.slice al (planF (planP bs A Wd D) bs A Wd D 0).length cl, .int .i64 0]) ∧ (planF (planP bs A Wd D) bs A Wd D 0).length ≤ cl ∧ CellsAt w' al ((planF (planP bs A Wd D) bs A Wd D 0).flatMap sqc) ∧ Below w.heap.size w w' := by
  have hA := hf.hA
  have hch : Choices (bs.drop A).length (chF bs A Wd D) := choices_ok hf.hA hf.hW.2
  have h1 := fdf noC_ok (D := D) hf.hA hf.hW.2 hn
  have HP := hid (fun W (hW : Below w.heap.size w W) M C (hM : PrAt W M C) => bpm_ok bs A Wd D F M C W (hf.low hW) hM hch)
  have HP : Hid (∀ W, Below w.heap.size w W → ∀ M C, PrAt W M C → Calls Tryz.prog 18 #[.pointer (some ⟨F, 0, none⟩), .pointer (some ⟨M, 0, none⟩)] W fun e w' => ∃ v, e = .returned (.tuple #[v, .int .i64 0]) ∧ w'.ownsRow W.heap.size 44 3 v (planF C bs A Wd D 0).length ((planF C bs A Wd D 0).flatMap sqc) ∧ Below W.heap.size W w') := HP
  have HDa := hid (fun W (hW : Below w.heap.size w W) => cdata_any bs A Wd D F W (hf.low hW))
  have hdl : bs.length - A = (bs.drop A).length := List.length_drop.symm
  rw [hdl] at HDa
  have H1 := hid h1
  have HN := hid hn
  have HPP := hid (show planC (bs.drop A) (planF noC bs A Wd D 0) = planP bs A Wd D from rfl)
  clear hf hch h1 hA hdl hn
  generalize planP bs A Wd D = CP at *
  generalize bs.drop A = data at *
  obtain ⟨L1, hL1⟩ : ∃ L1, planF noC bs A Wd D 0 = L1 := ⟨_, rfl⟩
  rw [hL1] at H1 HPP
  have HL1 := hid hL1
  clear hL1
  go_enter Tryz.func26, Tryz.ntmps26
  go_wp2_with fail
  refine (pruniform_any w).mono ?_
  rintro e w1 ⟨M0, rfl, hM0, _, hb1⟩
  have hb2 := below_new w1 (.cells #[.pointer (some ⟨M0, 0, none⟩), .pointer none] 111)
  have HM2 := hid (hM0.low hb2)
  have HT2 := hid (Blk.new w1 [.pointer (some ⟨M0, 0, none⟩), .pointer none] 111)
  have HB2 := hid (hb1.trans (hb2.mono hb1.size))
  have HG := hid hb1.size
  clear hM0 hb1 hb2
  go_wp2_with fail
  generalize w1.alloc (.cells #[.pointer (some ⟨M0, 0, none⟩), .pointer none] 111) = w2 at *
  generalize w1.heap.size = G at *
  refine wp_loop_rounds 3 ?_
  rw [rounds_succ]
  have t0 := HT2.out.cell (k := 0) rfl
  go_wp2_with fail
  clear t0
  have h1 := HP.out w2 HB2.out M0 noC HM2.out
  rw [HL1.out] at h1
  refine h1.mono ?_
  rintro e w3 ⟨v, rfl, hown, hb3⟩
  clear h1
  obtain ⟨al, cl, rfl, hlc, hcl, _⟩ := own_open hown
  have HC3 := hid (And.intro hlc hcl)
  have HT3 := hid (HT2.out.below hb3 HT2.out.lt)
  have HB3 := hid (HB2.out.trans (hb3.mono HB2.out.size))
  clear hown hlc hcl hb3 HT2 HB2 HM2
  go_wp2_with fail
  refine (HDa.out w3 HB3.out).mono ?_
  rintro e w4 ⟨v, rfl, hown, hb4⟩
  obtain ⟨ad, cd, rfl⟩ := own_slice hown
  obtain ⟨_, d1, d2, d3, d4⟩ := own_data hown
  have HT4 := hid (HT3.out.below hb4 HT3.out.lt)
  have HB4 := hid (HB3.out.trans (hb4.mono HB3.out.size))
  have HPd := hid (show PdAt w4 al cl L1 ad cd data from ⟨Nat.le_trans H1.out.2.2 (by decide), HC3.out.1, HC3.out.2.low hb4, ⟨Nat.le_trans HN.out (by decide), Nat.le_trans d3 (by decide)⟩, d1, d2, d4, Nat.le_trans HN.out (by decide)⟩)
  have HFp := hid (prfrom_ok w4 al cl L1 ad cd data HPd.out H1.out.1 H1.out.2.1)
  rw [HPP.out] at HFp
  clear hown d1 d2 d3 d4 hb4 HT3 HB3 HC3
  go_wp2_with fail
  refine HFp.out.mono ?_
  rintro e w5 ⟨M1, rfl, hM1, _, hb5⟩
  have HT5 := hid (HT4.out.below hb5 HT4.out.lt)
  have HB5 := hid (HB4.out.trans (hb5.mono HB4.out.size))
  have t1 := HT5.out.cell (k := 1) rfl
  have z1 := HT5.out.frozen 1
  have HM6 := hid (hM1.other HT5.out (k := 1) (by decide) (by decide) (by decide) (.pointer (some ⟨M1, 0, none⟩)))
  have HT6 := hid (HT5.out.set 1 (.pointer (some ⟨M1, 0, none⟩)))
  have HB6 := hid (HB5.out.setCell (p := ⟨G, 1, none⟩) HG.out (.pointer (some ⟨M1, 0, none⟩)))
  clear hM1 hb5 HT4 HB4 HFp HPd
  go_wp2_with fail
  clear t1 z1
  generalize w5.setCell ⟨G, 1, none⟩ (.pointer (some ⟨M1, 0, none⟩)) = w6 at *
  rw [rounds_succ]
  have t1 := HT6.out.cell (k := 1) rfl
  go_wp2_with fail
  clear t1
  refine (HP.out w6 HB6.out M1 CP HM6.out).mono ?_
  rintro e w7 ⟨v, rfl, hown, hb7⟩
  obtain ⟨al, cl, rfl, hlc, hcl, _⟩ := own_open hown
  have HC7 := hid (And.intro hlc hcl)
  have HB7 := hid (HB6.out.trans (hb7.mono HB6.out.size))
  clear hown hlc hcl hb7
  go_wp2
  refine bodyPost_ret (v := .tuple #[.slice al (planF CP bs A Wd D 0).length cl, .int .i64 0]) (by simp [results, Tryz.results26, go_sem]) rfl ?_
  exact ⟨al, cl, rfl, HC7.out.1, HC7.out.2, HB7.out⟩
set_option maxRecDepth 100000 in
theorem bparse_none (p : Option Addr) (w : World) (h : NoFd p w) :
    Calls Tryz.prog 26 #[.pointer p] w (RetV w (.tuple #[.slice none 0 0, .int .i64 1])) := by
  have HNo := hid h
  clear h
  go_enter Tryz.func26, Tryz.ntmps26
  go_wp2_with fail
  refine (pruniform_any w).mono ?_
  rintro e w1 ⟨M0, rfl, hM0, _, hb1⟩
  have hb2 := below_new w1 (.cells #[.pointer (some ⟨M0, 0, none⟩), .pointer none] 111)
  have HM2 := hid (hM0.low hb2)
  have HT2 := hid (Blk.new w1 [.pointer (some ⟨M0, 0, none⟩), .pointer none] 111)
  have HB2 := hid (hb1.trans (hb2.mono hb1.size))
  have HN2 := hid (HNo.out.low HB2.out)
  clear hM0 hb1 hb2
  go_wp2_with fail
  generalize w1.alloc (.cells #[.pointer (some ⟨M0, 0, none⟩), .pointer none] 111) = w2 at *
  generalize w1.heap.size = G at *
  refine wp_loop_rounds 3 ?_
  rw [rounds_succ]
  have t0 := HT2.out.cell (k := 0) rfl
  go_wp2_with fail
  clear t0
  refine (bpm_none p (some ⟨M0, 0, none⟩) w2 (btab_nof p M0 noC w2 HN2.out HM2.out)).mono ?_
  rintro e w3 ⟨rfl, hb3⟩
  have HB3 := hid (HB2.out.trans (hb3.mono HB2.out.size))
  clear hb3
  go_wp2
  refine bodyPost_ret (v := .tuple #[.slice none 0 0, .int .i64 1]) (by simp [results, Tryz.results26, go_sem]) rfl ?_
  exact ⟨rfl, HB3.out⟩
end Go.Proofs.YtiagbejfghincaaGreat
