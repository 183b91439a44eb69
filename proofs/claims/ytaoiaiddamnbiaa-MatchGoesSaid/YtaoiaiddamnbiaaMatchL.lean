/-
  The walks of layer 28, twelfth part: the chapter's examples.
-/
import Derived.Test.YtaoiaiddamnbiaaMatchK
import Derived.Test.YtaoiaiddamnbiaaLow
import Derived.Lib.SlBytesConst
namespace Go.Port
open Go.RowKit

def gv : List UInt8 := [97, 98, 99, 97, 98, 99, 97, 98, 100]
/-- The examples' bytes lie in block g. -/
def GV (W : World) (g : Nat) : Prop := g < W.heap.size ∧ ∀ j u, (gv.map bv)[j]? = some u → W.cell? ⟨g, j, none⟩ = some u
theorem GV.low {W W' : World} {g : Nat} (h : GV W g) (hb : Below W.heap.size W W') : GV W' g :=
  ⟨Nat.lt_of_lt_of_le h.1 hb.size, fun j u hu => (hb.cell (p := ⟨g, j, none⟩) h.1).trans (h.2 j u hu)⟩
theorem GV.cells {W : World} {g : Nat} (h : GV W g) (j : Nat) (u : Value) (hu : (gv.map bv)[j]? = some u) : ∃ bl off, some (⟨g, 0, none⟩ : Addr) = some ⟨bl, off, none⟩ ∧ bl < W.heap.size ∧ W.cell? ⟨bl, off + j, none⟩ = some u :=
  ⟨g, 0, rfl, h.1, by rw [Nat.zero_add]; exact h.2 j u hu⟩
theorem Blk.cells {W : World} {g : Nat} {vs : List Value} {t : TypeId} (h : Blk W g vs t) (j : Nat) (u : Value) (hu : vs[j]? = some u) : ∃ bl off, some (⟨g, 0, none⟩ : Addr) = some ⟨bl, off, none⟩ ∧ bl < W.heap.size ∧ W.cell? ⟨bl, off + j, none⟩ = some u :=
  ⟨g, 0, rfl, h.lt, by rw [Nat.zero_add]; exact h.cell hu⟩
/-- What lies while the examples are run. -/
structure Ex (t : TypeId) (w : World) (g s : Nat) (W : World) : Prop where
  hg : GV W g
  hs : Blk W s [.int .i64 0, .int .i64 5, .int .i64 3] t
  hb : Below w.heap.size w W
theorem Ex.low {t : TypeId} {w : World} {g s : Nat} {W W' : World} (h : Ex t w g s W) (hb : Below W.heap.size W W') : Ex t w g s W' := ⟨h.hg.low hb, h.hs.below hb h.hs.lt, h.hb.trans (hb.mono h.hb.size)⟩
theorem Ex.alloc {t : TypeId} {w : World} {g s : Nat} {W : World} (h : Ex t w g s W) (o : Obj) : Ex t w g s (W.alloc o) := h.low (below_new W o)
end Go.Port
namespace Go.Proofs.Ytaoiaiddamnbiaa
open Go.RowKit Go.Port

theorem given_any (w : World) : Calls Try.prog 27 #[] w fun e w' => ∃ g, e = .returned (.slice (some ⟨g, 0, none⟩) 9 9) ∧ GV w' g ∧ Below w.heap.size w w' := by
  have hcv := Lib.run_convert_bytes_const (P := Try.prog) w 22 5 #[.int .u8 97, .int .u8 98, .int .u8 99, .int .u8 97, .int .u8 98, .int .u8 99, .int .u8 97, .int .u8 98, .int .u8 100] 9 9 Try.underlying22 Try.underlying5
  go_enter Try.func27, Try.ntmps27
  go_wp2
  go_ret
  refine ⟨_, rfl, ⟨by simp, fun j u hu => ?_⟩, below_new w _⟩
  have h := World.alloc_heap_new w (.cells (gv.map bv).toArray 5 (9, 9 + 1))
  unfold World.cell?
  show (match (w.alloc (.cells (gv.map bv).toArray 5 (9, 9 + 1))).heap[w.heap.size]? with
    | some (.cells cs _ _) => cs[j]?
    | _ => none) = some u
  rw [h]
  simpa using hu

theorem ex_best1 (W : World) (g h : Nat) (hg : GV W g) (hh : Blk W h [.int .i64 0, .int .i64 1, .int .i64 7] 3) :
    Calls Try.prog 16 #[.slice (some ⟨g, 0, none⟩) 9 9, .int .i64 3, .int .i64 99, .slice (some ⟨h, 0, none⟩) 3 3] W (RetV W (.tuple #[.agg #[.int .i64 0, .int .i64 5, .int .i64 3], .bool true])) := by
  have e : bestS gv 3 99 [0, 1, 7] = some ⟨0, 5, 3⟩ := by decide
  have := best_any (some ⟨g, 0, none⟩) (some ⟨h, 0, none⟩) 9 3 gv 3 99 [0, 1, 7] W (by decide) (by decide) (by decide) hg.cells hh.cells
  rw [e] at this
  exact this
theorem ex_best2 (W : World) (g h : Nat) (hg : GV W g) (hh : Blk W h [.int .i64 3, .int .i64 0] 3) :
    Calls Try.prog 16 #[.slice (some ⟨g, 0, none⟩) 9 9, .int .i64 6, .int .i64 99, .slice (some ⟨h, 0, none⟩) 2 2] W (RetV W (.tuple #[.agg #[.int .i64 0, .int .i64 0, .int .i64 0], .bool false])) := by
  have e : bestS gv 6 99 [3, 0] = none := by decide
  have := best_any (some ⟨g, 0, none⟩) (some ⟨h, 0, none⟩) 9 2 gv 6 99 [3, 0] W (by decide) (by decide) (by decide) hg.cells hh.cells
  rw [e] at this
  exact this
theorem ex_inc (W : World) (g h : Nat) (hg : GV W g) (hh : Blk W h [.int .i64 2, .int .i64 0] 3) :
    Calls Try.prog 18 #[.slice (some ⟨g, 0, none⟩) 9 9, .int .i64 3, .int .i64 99, .slice (some ⟨h, 0, none⟩) 2 2] W fun e w' => ∃ g' c, e = .returned (.slice (some ⟨g', 0, none⟩) 1 c) ∧ g' < w'.heap.size ∧ (w'.cell? ⟨g', 0, none⟩ = some (.int .i64 0) ∧ w'.cell? ⟨g', 1, none⟩ = some (.int .i64 5) ∧ w'.cell? ⟨g', 2, none⟩ = some (.int .i64 3)) ∧ Below W.heap.size W w' := by
  have e : incS gv 3 99 [2, 0] = [⟨0, 5, 3⟩] := by decide
  have := increasing_any (some ⟨g, 0, none⟩) (some ⟨h, 0, none⟩) 9 2 gv 3 99 [2, 0] W (by decide) (by decide) (by decide) hg.cells hh.cells
  rw [e] at this
  refine Calls.mono this ?_
  rintro e w' ⟨v, rfl, hown, hb⟩
  obtain ⟨g', cap, cs, rfl, _, _, _, hblk, hcs⟩ := own_blk hown (by decide)
  have hcs' : cs.take 3 = [.int .i64 0, .int .i64 5, .int .i64 3] := hcs
  have hk : ∀ j u, ([.int .i64 0, .int .i64 5, .int .i64 3] : List Value)[j]? = some u → w'.cell? ⟨g', j, none⟩ = some u := fun j u hu => hblk.cell (by
    rw [← hcs', List.getElem?_take] at hu
    split at hu
    · exact hu
    · cases hu)
  exact ⟨g', cap, rfl, hblk.lt, ⟨hk 0 _ rfl, hk 1 _ rfl, hk 2 _ rfl⟩, hb⟩
theorem ex_cost1 (W : World) (h : Nat) (hh : Blk W h [.int .i64 3, .int .i64 5, .int .i64 3] 28) :
    Calls Try.prog 20 #[.int .i64 9, .slice (some ⟨h, 0, none⟩) 1 1] W (RetV W (.tuple #[.int .i64 45, .int .i64 0])) := by
  have e : costM 9 [⟨3, 5, 3⟩] = some 45 := by decide
  have := cost_any (some ⟨h, 0, none⟩) 1 9 [⟨3, 5, 3⟩] W (by decide) (by decide) (by decide) (by intro s hs; rw [List.mem_singleton.1 hs]; exact ⟨⟨by decide, by decide⟩, ⟨by decide, by decide⟩, ⟨by decide, by decide⟩⟩) hh.cells
  rw [e] at this
  exact this
theorem ex_cost2 (W : World) (h : Nat) (hh : Blk W h [.int .i64 3, .int .i64 5, .int .i64 3] 28) :
    Calls Try.prog 20 #[.int .i64 5, .slice (some ⟨h, 0, none⟩) 1 1] W (RetV W (.tuple #[.int .i64 0, .int .i64 15])) := by
  have e : costM 5 [⟨3, 5, 3⟩] = none := by decide
  have := cost_any (some ⟨h, 0, none⟩) 1 5 [⟨3, 5, 3⟩] W (by decide) (by decide) (by decide) (by intro s hs; rw [List.mem_singleton.1 hs]; exact ⟨⟨by decide, by decide⟩, ⟨by decide, by decide⟩, ⟨by decide, by decide⟩⟩) hh.cells
  rw [e] at this
  exact this
theorem ex_len (W : World) (g : Nat) (p q m : Int) (r : Int) (hg : GV W g) (e : (lenS gv p q m : Int) = r) :
    Calls Try.prog 12 #[.slice (some ⟨g, 0, none⟩) 9 9, .int .i64 p, .int .i64 q, .int .i64 m] W (RetV W (.int .i64 r)) := by
  have := len_any (some ⟨g, 0, none⟩) 9 gv p q m W (by decide) (by decide) hg.cells
  rw [e] at this
  exact this
theorem ex_back (W : World) (g : Nat) (p q m : Int) (r : Int) (hg : GV W g) (e : (backS gv p q m : Int) = r) :
    Calls Try.prog 14 #[.slice (some ⟨g, 0, none⟩) 9 9, .int .i64 p, .int .i64 q, .int .i64 m] W (RetV W (.int .i64 r)) := by
  have := lenb_any (some ⟨g, 0, none⟩) 9 gv p q m W (by decide) hg.cells
  rw [e] at this
  exact this

set_option maxRecDepth 100000 in
set_option maxHeartbeats 4000000 in
theorem works_any (w : World) : Calls Try.prog 11 #[] w (RetV w (.bool true)) := by
  go_enter Try.func11, Try.ntmps11
  go_wp2_with fail
  refine (given_any w).mono ?_
  rintro e w1 ⟨g, rfl, hg1, hb1⟩
  have HG1 := hid (hg1.low (below_new w1 (.cells #[.int .i64 0, .int .i64 1, .int .i64 7] 3)))
  have HB1 := hid (hb1.alloc hb1.size (.cells #[.int .i64 0, .int .i64 1, .int .i64 7] 3))
  clear hg1 hb1
  go_wp2_with fail
  refine (ex_best1 _ g _ HG1.out (by exact Blk.newAt (by simp))).mono ?_
  rintro e w2 ⟨rfl, hb⟩
  have hb2 := HB1.out.trans (hb.mono HB1.out.size)
  have HE3 := hid (Ex.alloc ⟨(HG1.out.low hb).low (below_new w2 (.cells #[.int .i64 0, .int .i64 5, .int .i64 3] 28)), Blk.new w2 [.int .i64 0, .int .i64 5, .int .i64 3] 28, hb2.alloc hb2.size _⟩ (.cells #[.int .i64 3, .int .i64 0] 3))
  clear hb hb2 HB1 HG1
  go_wp2_with fail
  refine (ex_best2 _ g _ HE3.out.hg (by exact Blk.newAt (by simp))).mono ?_
  rintro e w4 ⟨rfl, hb⟩
  have HE5 := hid (((HE3.out.low hb).alloc (.cells #[.int .i64 0, .int .i64 0, .int .i64 0] 28)).alloc (.cells #[.int .i64 2, .int .i64 0] 3))
  clear hb HE3
  go_wp2_with fail
  refine (ex_inc _ g _ HE5.out.hg (by exact Blk.newAt (by simp))).mono ?_
  rintro e w6 ⟨g6, c6, rfl, hg6, hc6, hb⟩
  have HE7 := hid ((HE5.out.low hb).alloc (.cells #[.int .i64 3, .int .i64 5, .int .i64 3] 28))
  have HI7 := hid (fun W (hW : Below w6.heap.size w6 W) => (⟨(hW.cell (p := ⟨g6, 0, none⟩) hg6).trans hc6.1, (hW.cell (p := ⟨g6, 1, none⟩) hg6).trans hc6.2.1, (hW.cell (p := ⟨g6, 2, none⟩) hg6).trans hc6.2.2⟩ : W.cell? ⟨g6, 0, none⟩ = some (.int .i64 0) ∧ W.cell? ⟨g6, 1, none⟩ = some (.int .i64 5) ∧ W.cell? ⟨g6, 2, none⟩ = some (.int .i64 3)))
  have HQ7 := hid (below_new w6 (.cells #[.int .i64 3, .int .i64 5, .int .i64 3] 28))
  clear hb HE5 hg6 hc6
  go_wp2_with fail
  refine (ex_cost1 _ _ (by exact Blk.newAt (by simp))).mono ?_
  rintro e w8 ⟨rfl, hb⟩
  have HE9 := hid ((HE7.out.low hb).alloc (.cells #[.int .i64 3, .int .i64 5, .int .i64 3] 28))
  have hq8 := HQ7.out.trans (hb.mono HQ7.out.size)
  have HQ9 := hid (hq8.alloc hq8.size (.cells #[.int .i64 3, .int .i64 5, .int .i64 3] 28))
  clear hb HE7 HQ7 hq8
  go_wp2_with fail
  refine (ex_cost2 _ _ (by exact Blk.newAt (by simp))).mono ?_
  rintro e wA ⟨rfl, hb⟩
  have HEA := hid (HE9.out.low hb)
  have hQA := HQ9.out.trans (hb.mono HQ9.out.size)
  have i0 := fun V : LowOf wA.heap.size wA => (HI7.out V.W (hQA.trans (V.below.mono hQA.size))).1
  have i1 := fun V : LowOf wA.heap.size wA => (HI7.out V.W (hQA.trans (V.below.mono hQA.size))).2.1
  have i2 := fun V : LowOf wA.heap.size wA => (HI7.out V.W (hQA.trans (V.below.mono hQA.size))).2.2
  clear hQA
  clear hb HE9 HQ9 HI7
  generalize w2.heap.size = sb at *
  have hs := HEA.out.hs
  have s0 := fun V : LowOf wA.heap.size wA => V.cell (hs.cell (k := 0) rfl) hs.lt
  have s1 := fun V : LowOf wA.heap.size wA => V.cell (hs.cell (k := 1) rfl) hs.lt
  have s2 := fun V : LowOf wA.heap.size wA => V.cell (hs.cell (k := 2) rfl) hs.lt
  have hV := fun V : LowOf wA.heap.size wA => HEA.out.hg.low V.below
  have L1 := hid (fun V : LowOf wA.heap.size wA => Calls.low_of V (Nat.le_refl _) (ex_len V.W g 3 0 99 5 (hV V) (by decide)))
  have L2 := hid (fun V : LowOf wA.heap.size wA => Calls.low_of V (Nat.le_refl _) (ex_len V.W g 3 0 4 4 (hV V) (by decide)))
  have L3 := hid (fun V : LowOf wA.heap.size wA => Calls.low_of V (Nat.le_refl _) (ex_len V.W g 6 3 99 2 (hV V) (by decide)))
  have L4 := hid (fun V : LowOf wA.heap.size wA => Calls.low_of V (Nat.le_refl _) (ex_len V.W g 3 3 99 0 (hV V) (by decide)))
  have L5 := hid (fun V : LowOf wA.heap.size wA => Calls.low_of V (Nat.le_refl _) (ex_len V.W g 9 0 9 0 (hV V) (by decide)))
  have B1 := hid (fun V : LowOf wA.heap.size wA => Calls.low_of V (Nat.le_refl _) (ex_back V.W g 8 5 0 5 (hV V) (by decide)))
  have B2 := hid (fun V : LowOf wA.heap.size wA => Calls.low_of V (Nat.le_refl _) (ex_back V.W g 8 5 7 1 (hV V) (by decide)))
  have B3 := hid (fun V : LowOf wA.heap.size wA => Calls.low_of V (Nat.le_refl _) (ex_back V.W g 8 5 8 0 (hV V) (by decide)))
  have G1 := hid (fun V : LowOf wA.heap.size wA => Calls.low_same V (by have := mlog_any 8 V.W (by omega) (by omega); rwa [show logI 8 = 3 from by decide] at this))
  have G2 := hid (fun V : LowOf wA.heap.size wA => Calls.low_same V (by have := mlog_any 0 V.W (by omega) (by omega); rwa [show logI 0 = 0 from by decide] at this))
  have N1 := hid (fun V : LowOf wA.heap.size wA => Calls.low_same V (by exact num_any 0 V.W))
  clear hs hV
  go_wp2_with fail
  simp only [List.append_eq, List.cons_append, List.nil_append]
  refine wp_region_low wA.heap.size (by kernel_rfl) (by kernel_rfl) ?_
  repeat (go_big_quiet_step (first | with_reducible exact L1.out _ | with_reducible exact L2.out _ | with_reducible exact L3.out _ | with_reducible exact L4.out _ | with_reducible exact L5.out _ | with_reducible exact B1.out _ | with_reducible exact B2.out _ | with_reducible exact B3.out _ | with_reducible exact G1.out _ | with_reducible exact G2.out _ | with_reducible exact N1.out _))
  refine wpQuiet_nil ?_
  rintro _ ⟨V, rfl⟩
  have hbV := HEA.out.hb.trans (V.below.mono HEA.out.hb.size)
  go_wp2
  go_ret
  exact ⟨rfl, hbV⟩

end Go.Proofs.Ytaoiaiddamnbiaa
