/-
  The walks of layer 27, fifth part: Chain and its iterator.
-/
import Derived.Test.YtngphgdoolcpcaaIxD
import Derived.Shelf.Abstract
namespace Go.Proofs.Ytngphgdoolcpcaa
open Go.RowKit Go.Port

attribute [local go_sem] Oper.semAt_some

set_option maxHeartbeats 800000 in
theorem xchain_any (bs : List UInt8) (X : Nat) (p : Int) (w : World) (hn : bs.length ≤ 1000000) (h : IxAt 119 bs X w) :
    Calls Try.prog 53 #[.pointer (some ⟨X, 0, none⟩), .int .i64 p] w fun e w' => ∃ g k a c, e = .returned (.func (.func 72) #[] #[.pointer (some ⟨g, 0, none⟩), .pointer (some ⟨k, 0, none⟩)]) ∧ Blk w' g [.slice a (chainS bs p).length c] 49 ∧ Blk w' k [.int .i64 p] 3 ∧
      CellsAt w' a ((chainS bs p).map natI) ∧ Below w.heap.size w w' := by
  have hB0 : Below w.heap.size w ((w.alloc (.cells #[.pointer (some ⟨X, 0, none⟩)] 54)).alloc (.cells #[.int .i64 p] 3)) := (below_new w _).alloc (by simp) _
  have hs0 : ((w.alloc (.cells #[.pointer (some ⟨X, 0, none⟩)] 54)).alloc (.cells #[.int .i64 p] 3)).heap.size = w.heap.size + 2 := by simp
  have hb0 : Blk ((w.alloc (.cells #[.pointer (some ⟨X, 0, none⟩)] 54)).alloc (.cells #[.int .i64 p] 3)) w.heap.size [.pointer (some ⟨X, 0, none⟩)] 54 := (Blk.new w _ _).alloc _
  have hb1 : Blk ((w.alloc (.cells #[.pointer (some ⟨X, 0, none⟩)] 54)).alloc (.cells #[.int .i64 p] 3)) (w.heap.size + 1) [.int .i64 p] 3 := by
    have := Blk.new (w.alloc (.cells #[.pointer (some ⟨X, 0, none⟩)] 54)) [.int .i64 p] 3
    rwa [show (w.alloc (.cells #[.pointer (some ⟨X, 0, none⟩)] 54)).heap.size = w.heap.size + 1 from by simp] at this
  have HG := hid (xgone_any bs X w.heap.size p _ hn (h.low hB0) (hb0.cell (k := 0) rfl) hb0.lt)
  have HB0 := hid hB0
  have HB1 := hid hb1
  clear h hB0 hb0 hb1 hs0
  go_enter Try.func53, Try.ntmps53
  go_wp2_with fail
  refine HG.out.mono ?_
  rintro e w1 ⟨v, rfl, hown, hb⟩
  obtain ⟨a, c, rfl⟩ := own_slice hown
  have hb' := HB0.out.trans (hb.mono HB0.out.size)
  have HO := hid ((Sl.of_owns (own_low hown (below_new w1 (.cells #[.slice a (chainS bs p).length c] 49)))).cells' rfl)
  have HK := hid ((HB1.out.below hb HB1.out.lt).alloc (.cells #[.slice a (chainS bs p).length c] 49))
  have HB := hid (hb'.alloc hb'.size (.cells #[.slice a (chainS bs p).length c] 49))
  clear hown hb hb' HG HB0 HB1
  go_wp2
  go_ret
  exact ⟨_, _, _, _, rfl, Blk.new w1 [.slice a (chainS bs p).length c] _, HK.out, HO.out, HB.out⟩

set_option maxRecDepth 100000 in
set_option maxHeartbeats 4000000 in
theorem xchain2_seq (X : Nat → Prop) (T : TypeId → Bool) (g k : Nat) (a : Option Addr) (c : Nat) (l : List Nat) (own : Int) (w0 : World) (hl : l.length ≤ 1000000) (hown : 0 ≤ own ∧ own ≤ 1000000) (hlo : ∀ x ∈ l, (x : Int) ≤ 1000000) (hg : X g) (hk : X k) (hT : T 49 = false) (hT2 : T 101 = false)
    (hb : w0.cell? ⟨g, 0, none⟩ = some (.slice a l.length c)) (hb2 : w0.cell? ⟨k, 0, none⟩ = some (.int .i64 own))
    (hc : ∀ j u, (l.map natI)[j]? = some u → ∃ b off, a = some ⟨b, off, none⟩ ∧ X b ∧ w0.cell? ⟨b, off + j, none⟩ = some u) :
    SeqSt Try.prog 72 #[.pointer (some ⟨g, 0, none⟩), .pointer (some ⟨k, 0, none⟩)] (encsD own) (fun xs => xs = l) (fun xs => ∃ rest, xs ++ rest = l) X T w0 := by
  intro lp J Jx W hW hJ hJx hY hJ0
  have hT0 : TrX X w0 W := TrX.low hW
  have hpW := hT0 _ _ (show X (⟨g, 0, none⟩ : Addr).block from hg) hb
  have HK0 := hid (fun (W' : World) (hT : TrX X w0 W') => hT _ _ (show X (⟨k, 0, none⟩ : Addr).block from hk) hb2)
  have HC := hid (fun (W' : World) (hT : TrX X w0 W') j u hu => (show ∃ b off, a = some ⟨b, off, none⟩ ∧ X b ∧ W'.cell? ⟨b, off + j, none⟩ = some u from by
    obtain ⟨b, off, e, hb, hc⟩ := hc j u hu
    exact ⟨b, off, e, hb, hT ⟨b, off + j, none⟩ u hb hc⟩))
  have HY := hid hY
  have HJ := hid hJ
  have HJx := hid hJx
  have HJ0 := hid hJ0
  have HT0 := hid hT0
  have HLo := hid hlo
  clear hc hY hT0 hb hJx hJ hJ0 hb2 hlo
  have hpl : g < W.heap.size := World.block_lt_of_cell? W _ hpW
  refine callsIn_wide.2 ((callsIn_wide (n := 1)).1 ?_)
  refine callsIn_of_wp_marks Try.func72 rfl trivial ?_ rfl
  simp only [Try.ntmps72, List.size_toArray, List.length_cons, List.length_nil, Nat.reduceAdd, Nat.reduceSub, Array.replicate_succ, Array.replicate_zero, List.push_toArray, List.append_toArray, List.nil_append, List.cons_append]
  gi_wp2
  refine wpIn_wide.2 (wp_scope_straight ((wpIn_wide (n := 0)).1 ?_))
  have HS1 := hid (fun W => callsIn_wide (n := 0) |>.2 (xall_any a l.length c W))
  gi_wp2
  refine wpIn_label ?_
  gi_wp2_with (refine ⟨trivial, rfl, ?_⟩; refine (HS1.out _).mono ?_; rintro e w' ⟨rfl, rfl⟩)
  have hpw2 := hid (Blk.new (W.alloc (.cells #[.func (.yield lp) #[] #[]] 101)) [.slice a l.length c] 49)
  have hyb : Blk ((W.alloc (.cells #[.func (.yield lp) #[] #[]] 101)).alloc (.cells #[.slice a l.length c] 49)) W.heap.size [.func (.yield lp) #[] #[]] 101 := (Blk.new W _ _).alloc _
  have hbW : Below W.heap.size W ((W.alloc (.cells #[.func (.yield lp) #[] #[]] 101)).alloc (.cells #[.slice a l.length c] 49)) := (below_new W _).alloc (by simp) _
  have hsz : ((W.alloc (.cells #[.func (.yield lp) #[] #[]] 101)).alloc (.cells #[.slice a l.length c] 49)).heap.size = W.heap.size + 2 := by simp
  have hsz1 : (W.alloc (.cells #[.func (.yield lp) #[] #[]] 101)).heap.size = W.heap.size + 1 := by simp
  rw [hsz1] at hpw2
  have hJ2 := HJ.out.low HJ0.out hbW
  have hT2w := HT0.out.trans (TrX.low hbW)
  generalize ((W.alloc (.cells #[.func (.yield lp) #[] #[]] 101)).alloc (.cells #[.slice a l.length c] 49)) = w2 at *
  have hle : W.heap.size ≤ w2.heap.size := by omega
  refine wpIn_wide.2 ((wpIn_wide (n := 1)).1 ?_)
  apply wpIn_rangeSt (gf := 85) (lb := #[.pointer (some ⟨W.heap.size + 1, 0, none⟩)]) rfl (enters_of Try.func85 (by kernel_rfl) rfl) (encs := encsN)
    (xall_seq (fun k => X k ∨ k = W.heap.size + 1) T (W.heap.size + 1) a c l w2 hl (.inr rfl) (hpw2.out.cell (k := 0) rfl) (fun j u hu => by
      obtain ⟨b, off, e, hb, hc⟩ := HC.out w2 hT2w j u hu
      exact ⟨b, off, e, .inl hb, hc⟩)) (fun _ => rfl)
    (fun xs Wr => J (xs.map (Prod.snd : Int × Nat → Nat)) Wr ∧ Blk Wr W.heap.size [.func (.yield lp) #[] #[]] 101 ∧ Blk Wr (W.heap.size + 1) [.slice a l.length c] 49 ∧ Wr.cell? ⟨k, 0, none⟩ = some (.int .i64 own))
    (fun cd xs Wr => cd = .exit 0 ∧ Jx (xs.map (Prod.snd : Int × Nat → Nat)) Wr)
    (((HJ.out.mono hle).map (List.map (Prod.snd : Int × Nat → Nat))).and ((stays_cells _ _ _ _).and ((stays_cells _ _ _ _).and (fun _ _ _ _ h hg hr => cell_kept h hg (fun r e => (hr r e).2)))))
    (fun cd => (StaysC.pure _ (fun _ => cd = .exit 0)).and ((HJx.out.mono hle).map (List.map (Prod.snd : Int × Nat → Nat)))) ⟨hJ2, hyb, hpw2.out, HK0.out w2 hT2w⟩
    (fun x a' _ => a' = { tmps := #[.func (.yield lp) #[] #[], .pointer (some ⟨g, 0, none⟩), .pointer (some ⟨k, 0, none⟩), .pointer (some ⟨W.heap.size, 0, none⟩), undef, .int .i64 (x.2 : Int), .slice a l.length c, .func (.func 85) #[] #[.pointer (some ⟨W.heap.size + 1, 0, none⟩)], .int .i64 x.1, .int .i64 (x.2 : Int), undef, undef, undef, undef, undef, undef, undef], defers := [] })
    (fun x a' => StaysC.pure _ _)
  case hassign =>
    rintro l' pre ⟨i, x⟩ Wr K hI hSp hK
    unfold encsN
    have HK := hid (fun a' => hK a' Wr (KeepsT.refl _ _ _ _) hI)
    clear hK hI
    gi_wp2
    exact HK.out _ rfl
  case hbody =>
    rintro l' pre ⟨i, x⟩ a' Wr ⟨h1, h2, h3, h4⟩ rfl hSp
    have hsp : ∃ rest, (pre.map (Prod.snd : Int × Nat → Nat) ++ [x]) ++ rest = l := by
      obtain ⟨rest, hr⟩ := hSp
      refine ⟨rest.map Prod.snd, ?_⟩
      rw [← enumN_snd l, ← hr]
      simp
    have hx : (x : Int) ≤ 1000000 := HLo.out x (by
      obtain ⟨rest, hr⟩ := hsp
      rw [← hr]
      simp)
    obtain ⟨fn, tmps, assign, body, hy, hRy⟩ := HY.out (pre.map Prod.snd) x Wr h1 hsp
    have hy2 : (Instr.yield lp #[.int .i64 (x : Int), .int .i64 (own - (x : Int))]).run Try.prog Wr = .ok (.round lp fn tmps assign body) Wr := hy
    have HRy := hid hRy
    have d0 := h2.cell (k := 0) rfl
    have hkx : X k := hk
    have HKk := hid (fun (A : World) (D : Nat) (h : KeepsT X D T Wr A) => h.cell (a := ⟨k, 0, none⟩) hkx h4)
    have H2 := hid h2
    have H3 := hid h3
    clear hy hRy h1 h2 h3 hSp hsp
    gi_wp2
    refine ⟨rfl, HRy.out.mono ?_⟩
    rintro e w3 ⟨hkp, (⟨rfl, hJ3⟩ | ⟨rfl, hJx3⟩)⟩
    · have HF := hid (And.intro (hkp.also H3.out (by omega) hT hle) (And.intro hJ3 (And.intro (hkp.blk H2.out (.inr ⟨Nat.le_refl _, hT2⟩)) (And.intro (hkp.blk H3.out (.inr ⟨by omega, hT⟩)) (HKk.out w3 _ hkp)))))
      clear hkp hJ3
      gi_wp2
      refine ⟨HF.out.1, ?_, HF.out.2.2⟩
      rw [List.map_append]
      exact HF.out.2.1
    · have HF := hid (And.intro (hkp.also H3.out (by omega) hT hle) hJx3)
      clear hkp hJx3
      gi_wp2
      refine ⟨HF.out.1, rfl, ?_⟩
      rw [List.map_append]
      exact HF.out.2
  case hdone =>
    rintro D xs Wr hD rfl ⟨h1, h2, h3, h4⟩ hk
    rw [enumN_snd] at h1
    gi_wp2
    simp only [Exit.noGoto_normal]
    refine ⟨by simp, .inl ⟨_, _, rfl, run_takeDeferred hk, ?_⟩⟩
    refine ⟨_, results_none rfl _ _ _, ⟨_, rfl⟩, .inl ⟨l, rfl, HJ.out.put _ h1 (by omega) hk rfl⟩⟩
  case hstop =>
    rintro D cd xs Wr hD ⟨rest, hrest⟩ ⟨rfl, h1⟩ hk
    have hsp : ∃ rest, xs.map (Prod.snd : Int × Nat → Nat) ++ rest = l := ⟨rest.map Prod.snd, by rw [← enumN_snd l, ← hrest]; simp⟩
    have HSp := hid hsp
    clear hsp
    gi_wp2
    simp only [Exit.noGoto_normal]
    refine ⟨by simp, .inl ⟨_, _, rfl, run_takeDeferred hk, ?_⟩⟩
    refine ⟨_, results_none rfl _ _ _, ⟨_, rfl⟩, .inr ⟨_, HSp.out, HJx.out.put _ h1 (by omega) hk rfl⟩⟩
end Go.Proofs.Ytngphgdoolcpcaa
