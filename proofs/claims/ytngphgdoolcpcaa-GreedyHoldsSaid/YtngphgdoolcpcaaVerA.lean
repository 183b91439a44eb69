/-
  The walks of layer 22 (plan), first part: a step's methods, the two rules.
-/
import Derived.Test.YtngphgdoolcpcaaMem
import Derived.Test.YtngphgdoolcpcaaMPlain
import Derived.Test.YtngphgdoolcpcaaIxC
import Derived.Laws.EntriesVeiled
namespace Go.Port
open Go.RowKit
/-- A step of a plan: the sequence, its number, where it begins, the data's size, what lies behind, the window. -/
structure PSt where
  s : Sq
  num : Int
  at' : Int
  size : Int
  hav : Int
  win : Int
def pstc (x : PSt) : List Value := [.int .i64 x.s.lit, .int .i64 x.s.len, .int .i64 x.s.off, .int .i64 x.num, .int .i64 x.at', .int .i64 x.size, .int .i64 x.hav, .int .i64 x.win]
def pstv (x : PSt) : Value := .agg #[.int .i64 x.s.lit, .int .i64 x.s.len, .int .i64 x.s.off, .int .i64 x.num, .int .i64 x.at', .int .i64 x.size, .int .i64 x.hav, .int .i64 x.win]
/-- The sequence lies within the data. -/
structure PIn (x : PSt) : Prop where
  at0 : 0 ≤ x.at'
  lit : 0 ≤ x.s.lit
  len : 3 ≤ x.s.len
  fin : x.at' + x.s.lit + x.s.len ≤ x.size
  max : x.size ≤ 131072
/-- Its bytes lie within the window and what lies behind. -/
structure PFar (x : PSt) : Prop where
  off : 1 ≤ x.s.off
  win : x.s.off ≤ x.win
  far : x.s.off ≤ x.hav + (x.at' + x.s.lit)
  wmax : x.win ≤ 134217728
  h0 : 0 ≤ x.hav
  hmax : x.hav ≤ 1000000
end Go.Port
namespace Go.Proofs.Ytngphgdoolcpcaa
open Go.RowKit Go.Port

theorem pmatch_any (x : PSt) (w : World) (h : PIn x) :
    Calls Try.prog 41 #[pstv x] w (RetV w (.int .i64 (x.at' + x.s.lit))) := by
  obtain ⟨⟨lit, len, off⟩, num, at', size, hav, win⟩ := x
  obtain ⟨h1, h2, h3, h4, h5⟩ := h
  unfold pstv
  dsimp only at *
  have hw1 : IntKind.i64.wrap (at' + lit) = at' + lit := by rw [IntKind.wrap_i64]; omega
  clear h1 h2 h3 h4 h5
  go_enter Try.func41, Try.ntmps41
  go_wp2
  go_ret
  exact ⟨rfl, below_new w _⟩

theorem pend_any (x : PSt) (w : World) (h : PIn x) :
    Calls Try.prog 81 #[pstv x] w (RetV w (.int .i64 (x.at' + x.s.lit + x.s.len))) := by
  have hB := below_new w (.cells (pstc x).toArray 86)
  have hX := Blk.new w (pstc x) 86
  have HM := hid (fun W' => pmatch_any x W' h)
  obtain ⟨⟨lit, len, off⟩, num, at', size, hav, win⟩ := x
  obtain ⟨h1, h2, h3, h4, h5⟩ := h
  unfold pstv at HM ⊢
  unfold pstc at hB hX
  dsimp only at *
  have hw1 : IntKind.i64.wrap (at' + lit + len) = at' + lit + len := by rw [IntKind.wrap_i64]; omega
  have HB := hid hB
  have hlt := hX.lt
  have c0 := hX.cell (k := 0) rfl
  have c1 := hX.cell (k := 1) rfl
  have c2 := hX.cell (k := 2) rfl
  have c3 := hX.cell (k := 3) rfl
  have c4 := hX.cell (k := 4) rfl
  have c5 := hX.cell (k := 5) rfl
  have c6 := hX.cell (k := 6) rfl
  have c7 := hX.cell (k := 7) rfl
  clear h1 h2 h3 h4 h5 hB hX
  go_enter Try.func81, Try.ntmps81
  go_wp2_with fail
  generalize hg : w.alloc (.cells #[.int .i64 lit, .int .i64 len, .int .i64 off, .int .i64 num, .int .i64 at', .int .i64 size, .int .i64 hav, .int .i64 win] 86) = w1 at *
  clear hg
  have e0 := fun V : LowOf w1.heap.size w1 => V.cell c0 hlt
  have e1 := fun V : LowOf w1.heap.size w1 => V.cell c1 hlt
  have e2 := fun V : LowOf w1.heap.size w1 => V.cell c2 hlt
  have e3 := fun V : LowOf w1.heap.size w1 => V.cell c3 hlt
  have e4 := fun V : LowOf w1.heap.size w1 => V.cell c4 hlt
  have e5 := fun V : LowOf w1.heap.size w1 => V.cell c5 hlt
  have e6 := fun V : LowOf w1.heap.size w1 => V.cell c6 hlt
  have e7 := fun V : LowOf w1.heap.size w1 => V.cell c7 hlt
  have HMV := hid (fun V : LowOf w1.heap.size w1 => Calls.low_of V (Nat.le_refl _) (HM.out V.W))
  clear c0 c1 c2 c3 c4 c5 c6 c7
  refine wp_region_low w1.heap.size (by kernel_rfl) (by kernel_rfl) ?_
  repeat (go_big_quiet_step (with_reducible exact HMV.out _))
  refine wpQuiet_nil ?_
  rintro _ ⟨V, rfl⟩
  have hbV := HB.out.trans (V.below.mono HB.out.size)
  go_wp2
  go_ret
  exact ⟨rfl, hbV⟩

theorem pmust_any (x : PSt) (w : World) :
    Calls Try.prog 80 #[pstv x, .bool true] w (RetV w (.tuple #[])) := by
  obtain ⟨⟨lit, len, off⟩, num, at', size, hav, win⟩ := x
  unfold pstv
  go_enter Try.func80, Try.ntmps80
  go_wp2
  go_end0
  exact ⟨rfl, below_new w _⟩

theorem prules_any (w : World) :
    Calls Try.prog 79 #[] w (RetV w (.agg #[.func (.func 86) #[] #[], .func (.func 87) #[] #[]])) := by
  go_enter Try.func79, Try.ntmps79
  go_wp2
  refine bodyPost_ret (v := .agg #[.func (.func 86) #[] #[], .func (.func 87) #[] #[]]) (by simp [results, Try.results79, go_sem]) rfl ⟨rfl, ?_⟩
  exact below_new w _

set_option maxRecDepth 100000 in
theorem prule1_any (x : PSt) (w : World) (h : PIn x) :
    Calls Try.prog 86 #[pstv x] w (RetV w (.bool true)) := by
  have hB := below_new w (.cells (pstc x).toArray 86)
  have hX := Blk.new w (pstc x) 86
  have HM := hid (fun W' => pmatch_any x W' h)
  obtain ⟨⟨lit, len, off⟩, num, at', size, hav, win⟩ := x
  obtain ⟨h1, h2, h3, h4, h5⟩ := h
  unfold pstv at HM ⊢
  unfold pstc at hB hX
  dsimp only at *
  have hw1 : IntKind.i64.wrap (size - at') = size - at' := by rw [IntKind.wrap_i64]; omega
  have hw2 : IntKind.i64.wrap (size - (at' + lit)) = size - (at' + lit) := by rw [IntKind.wrap_i64]; omega
  have d1 : decide (0 ≤ lit) = true := decide_eq_true h2
  have d2 : decide (3 ≤ len) = true := decide_eq_true h3
  have d3 : decide (lit ≤ size - at') = true := decide_eq_true (by omega)
  have d4 : decide (len ≤ size - (at' + lit)) = true := decide_eq_true (by omega)
  have HB := hid hB
  have hlt := hX.lt
  have c0 := hX.cell (k := 0) rfl
  have c1 := hX.cell (k := 1) rfl
  have c2 := hX.cell (k := 2) rfl
  have c3 := hX.cell (k := 3) rfl
  have c4 := hX.cell (k := 4) rfl
  have c5 := hX.cell (k := 5) rfl
  have c6 := hX.cell (k := 6) rfl
  have c7 := hX.cell (k := 7) rfl
  clear h1 h2 h3 h4 h5 hB hX
  go_enter Try.func86, Try.ntmps86
  go_wp2_with fail
  generalize hg : w.alloc (.cells #[.int .i64 lit, .int .i64 len, .int .i64 off, .int .i64 num, .int .i64 at', .int .i64 size, .int .i64 hav, .int .i64 win] 86) = w1 at *
  clear hg
  have e0 := fun V : LowOf w1.heap.size w1 => V.cell c0 hlt
  have e1 := fun V : LowOf w1.heap.size w1 => V.cell c1 hlt
  have e2 := fun V : LowOf w1.heap.size w1 => V.cell c2 hlt
  have e3 := fun V : LowOf w1.heap.size w1 => V.cell c3 hlt
  have e4 := fun V : LowOf w1.heap.size w1 => V.cell c4 hlt
  have e5 := fun V : LowOf w1.heap.size w1 => V.cell c5 hlt
  have e6 := fun V : LowOf w1.heap.size w1 => V.cell c6 hlt
  have e7 := fun V : LowOf w1.heap.size w1 => V.cell c7 hlt
  have HMV := hid (fun V : LowOf w1.heap.size w1 => Calls.low_of V (Nat.le_refl _) (HM.out V.W))
  clear c0 c1 c2 c3 c4 c5 c6 c7
  refine wp_region_low w1.heap.size (by kernel_rfl) (by kernel_rfl) ?_
  repeat (go_big_quiet_step (with_reducible exact HMV.out _))
  refine wpQuiet_nil ?_
  rintro _ ⟨V, rfl⟩
  have hbV := HB.out.trans (V.below.mono HB.out.size)
  go_wp2
  go_ret
  exact ⟨rfl, hbV⟩

set_option maxRecDepth 100000 in
theorem prule2_any (x : PSt) (w : World) (h : PIn x) (hf : PFar x) :
    Calls Try.prog 87 #[pstv x] w (RetV w (.bool true)) := by
  have hB := below_new w (.cells (pstc x).toArray 86)
  have hX := Blk.new w (pstc x) 86
  have HM := hid (fun W' => pmatch_any x W' h)
  obtain ⟨⟨lit, len, off⟩, num, at', size, hav, win⟩ := x
  obtain ⟨h1, h2, h3, h4, h5⟩ := h
  obtain ⟨f1, f2, f3, f4, f5, f6⟩ := hf
  unfold pstv at HM ⊢
  unfold pstc at hB hX
  dsimp only at *
  have hw1 : IntKind.i64.wrap (off - (at' + lit)) = off - (at' + lit) := by rw [IntKind.wrap_i64]; omega
  have d1 : decide (1 ≤ off) = true := decide_eq_true f1
  have d2 : decide (off ≤ win) = true := decide_eq_true f2
  have d3 : decide (off - (at' + lit) ≤ hav) = true := decide_eq_true (by omega)
  have HB := hid hB
  have hlt := hX.lt
  have c0 := hX.cell (k := 0) rfl
  have c1 := hX.cell (k := 1) rfl
  have c2 := hX.cell (k := 2) rfl
  have c3 := hX.cell (k := 3) rfl
  have c4 := hX.cell (k := 4) rfl
  have c5 := hX.cell (k := 5) rfl
  have c6 := hX.cell (k := 6) rfl
  have c7 := hX.cell (k := 7) rfl
  clear h1 h2 h3 h4 h5 hB hX f1 f2 f3 f4 f5 f6
  go_enter Try.func87, Try.ntmps87
  go_wp2_with fail
  generalize hg : w.alloc (.cells #[.int .i64 lit, .int .i64 len, .int .i64 off, .int .i64 num, .int .i64 at', .int .i64 size, .int .i64 hav, .int .i64 win] 86) = w1 at *
  clear hg
  have e0 := fun V : LowOf w1.heap.size w1 => V.cell c0 hlt
  have e1 := fun V : LowOf w1.heap.size w1 => V.cell c1 hlt
  have e2 := fun V : LowOf w1.heap.size w1 => V.cell c2 hlt
  have e3 := fun V : LowOf w1.heap.size w1 => V.cell c3 hlt
  have e4 := fun V : LowOf w1.heap.size w1 => V.cell c4 hlt
  have e5 := fun V : LowOf w1.heap.size w1 => V.cell c5 hlt
  have e6 := fun V : LowOf w1.heap.size w1 => V.cell c6 hlt
  have e7 := fun V : LowOf w1.heap.size w1 => V.cell c7 hlt
  have HMV := hid (fun V : LowOf w1.heap.size w1 => Calls.low_of V (Nat.le_refl _) (HM.out V.W))
  clear c0 c1 c2 c3 c4 c5 c6 c7
  refine wp_region_low w1.heap.size (by kernel_rfl) (by kernel_rfl) ?_
  repeat (go_big_quiet_step (with_reducible exact HMV.out _))
  refine wpQuiet_nil ?_
  rintro _ ⟨V, rfl⟩
  have hbV := HB.out.trans (V.below.mono HB.out.size)
  go_wp2
  go_ret
  exact ⟨rfl, hbV⟩
end Go.Proofs.Ytngphgdoolcpcaa
