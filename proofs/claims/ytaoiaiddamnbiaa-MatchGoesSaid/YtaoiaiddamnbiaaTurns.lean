/-
  Plain laws for the laws on iterators, for every seat: blocks between two bounds are turned; one turn that counts what comes and may be left early.
-/
import Derived.Test.YtaoiaiddamnbiaaRangeSt
import Derived.Test.YtaoiaiddamnbiaaOwn
namespace Go.Port
open Go.RowKit

/-- A' is A but for the blocks from lo on below hi. -/
structure Mid (lo hi : Nat) (A A' : World) : Prop where
  os : A'.os = A.os
  tape : A'.tape = A.tape
  output : A'.output = A.output
  size : A'.heap.size = A.heap.size
  same : ∀ k, (k < lo ∨ hi ≤ k) → A'.heap[k]? = A.heap[k]?
theorem Mid.refl (lo hi : Nat) (A : World) : Mid lo hi A A := ⟨rfl, rfl, rfl, rfl, fun _ _ => rfl⟩
theorem Mid.set {lo hi : Nat} {A A' : World} (h : Mid lo hi A A') {a : Addr} (h1 : lo ≤ a.block) (h2 : a.block < hi) (u : Value) : Mid lo hi A (A'.setCell a u) :=
  ⟨h.os, h.tape, h.output, (by show (A'.heap.modify _ _).size = _; rw [Array.size_modify]; exact h.size), fun k hk => (Below.heap_setCell A' a u k (by omega)).trans (h.same k hk)⟩
theorem Mid.blk {lo hi : Nat} {A A' : World} (h : Mid lo hi A A') {b : Nat} {vs : List Value} {t : TypeId} (hb : Blk A b vs t) (hk : b < lo ∨ hi ≤ b) : Blk A' b vs t := (h.same b hk).trans hb
theorem Mid.own {lo hi : Nat} {A A' : World} (h : Mid lo hi A A') {base sz n : Nat} {e : TypeId} {v : Value} {xs : List Value} (ho : A.ownsRow base e sz v n xs) (hb : hi ≤ base) : A'.ownsRow base e sz v n xs := by
  obtain ⟨h1, h2⟩ := ho
  rcases h2 with h2 | ⟨g, cap, cur, hv, h3, h4, h5⟩
  · exact ⟨h1, .inl h2⟩
  · exact ⟨h1, .inr ⟨g, cap, cur, hv, h3, (h.same g (.inr (by omega))).trans h4, h5⟩⟩
theorem Mid.below {lo hi : Nat} {A A' : World} (h : Mid lo hi A A') : Below lo A A' := ⟨h.os, h.tape, h.output, by rw [h.size]; exact Nat.le_refl _, fun k hk => h.same k (.inl hk)⟩

/-- A block of at least n cells. -/
def CellBlk (W : World) (C n : Nat) (t : TypeId) : Prop := ∃ cs, Blk W C cs t ∧ n ≤ cs.length
theorem CellBlk.set {W : World} {C n : Nat} {t : TypeId} (h : CellBlk W C n t) (k : Nat) (u : Value) : CellBlk (W.setCell ⟨C, k, none⟩ u) C n t := by
  obtain ⟨cs, h1, h2⟩ := h
  exact ⟨_, h1.set k u, by simpa using h2⟩
theorem CellBlk.other {W : World} {C n : Nat} {t : TypeId} (h : CellBlk W C n t) {a : Addr} (u : Value) (ha : a.block ≠ C) : CellBlk (W.setCell a u) C n t := by
  obtain ⟨cs, h1, h2⟩ := h
  exact ⟨cs, h1.other u ha, h2⟩
theorem CellBlk.low {W W' : World} {C n : Nat} {t : TypeId} (h : CellBlk W C n t) (hb : Below W.heap.size W W') : CellBlk W' C n t := by
  obtain ⟨cs, h1, h2⟩ := h
  exact ⟨cs, h1.below hb h1.lt, h2⟩
theorem CellBlk.lt {W : World} {C n : Nat} {t : TypeId} (h : CellBlk W C n t) : C < W.heap.size := by
  obtain ⟨cs, h1, h2⟩ := h
  exact h1.lt
theorem CellBlk.at {W : World} {C n : Nat} {t : TypeId} (h : CellBlk W C n t) {k : Nat} (hk : k < n) : ∃ u, W.cell? ⟨C, k, none⟩ = some u ∧ W.frozen? ⟨C, k, none⟩ = false := by
  obtain ⟨cs, h1, h2⟩ := h
  exact ⟨_, h1.cell (List.getElem?_eq_getElem (by omega)), h1.frozen k⟩
theorem CellBlk.any {W : World} {C n : Nat} {t : TypeId} (h : CellBlk W C n t) (C' k : Nat) (u : Value) : CellBlk (W.setCell ⟨C', k, none⟩ u) C n t := by
  by_cases e : C' = C
  · subst e
    exact h.set k u
  · exact h.other u e
theorem CellBlk.of_own {W : World} {base n : Nat} {t : TypeId} {v : Value} {a : Option Addr} {c : Nat} {xs : List Value} (h : W.ownsRow base t 1 v n xs) (h0 : 0 < n) (hv : v = .slice a n c) : ∃ C, a = some ⟨C, 0, none⟩ ∧ base ≤ C ∧ CellBlk W C n t := by
  obtain ⟨g, cap, cs, e, hb, h1, h2, hblk, ht⟩ := own_blk h h0
  rw [hv] at e
  cases e
  refine ⟨g, rfl, hb, cs, hblk, ?_⟩
  have hl : (cs.take (n * 1)).length = n * 1 := by rw [ht]; exact h.1
  rw [List.length_take] at hl
  omega

section
variable {α : Type}
/-- Between two rounds of a turn: the number of rounds lies in the block that was new. -/
structure ITc (wb : World) (t3 : TypeId) (many : Int) (first : Bool) (xs : List α) (W : World) : Prop where
  n : Blk W wb.heap.size [.int .i64 (xs.length : Int)] t3
  low : Below wb.heap.size wb W
  go : first = true → xs.length = 0 ∨ (xs.length : Int) < many
structure IXc (wb : World) (t3 : TypeId) (many : Int) (first : Bool) (id : Nat) (c : Code) (xs : List α) (W : World) : Prop where
  n : Blk W wb.heap.size [.int .i64 (xs.length : Int)] t3
  low : Below wb.heap.size wb W
  c : c = .exit id
  first : first = true
  pos : 0 < xs.length
  at' : many ≤ (xs.length : Int)
  was : xs.length = 1 ∨ (xs.length : Int) - 1 < many
structure FTc (wb : World) (t3 : TypeId) (many : Int) (first : Bool) (N : Nat) (xs : List α) (W : World) : Prop where
  n : Blk W wb.heap.size [.int .i64 (xs.length : Int)] t3
  low : Below wb.heap.size wb W
  one : first = true → (xs.length : Int) = min (N : Int) (max 1 many)
  two : first = false → xs.length = N
theorem ITc.stays (wb : World) (t3 : TypeId) (many : Int) (first : Bool) {B : Nat} (hB : wb.heap.size < B) : StaysC B (ITc (α := α) wb t3 many first) := fun _ _ _ _ h hg hr =>
  ⟨h.n.grown hg (fun e => by have := (hr _ e.symm).1; omega), h.low.grown hg h.low.size (fun k hk => by have := (hr _ hk).1; omega), h.go⟩
theorem IXc.stays (wb : World) (t3 : TypeId) (many : Int) (first : Bool) (id : Nat) (c : Code) {B : Nat} (hB : wb.heap.size < B) : StaysC B (IXc (α := α) wb t3 many first id c) := fun _ _ _ _ h hg hr =>
  ⟨h.n.grown hg (fun e => by have := (hr _ e.symm).1; omega), h.low.grown hg h.low.size (fun k hk => by have := (hr _ hk).1; omega), h.c, h.first, h.pos, h.at', h.was⟩
theorem ITc.start (wb : World) (t3 : TypeId) (many : Int) (first : Bool) : ITc (α := α) wb t3 many first [] (wb.alloc (.cells #[.int .i64 0] t3)) :=
  ⟨Blk.new wb [.int .i64 0] t3, below_new wb _, fun _ => .inl rfl⟩
theorem ITc.fin {wb : World} {t3 : TypeId} {many : Int} {first : Bool} {l : List α} (xs : List α) (W : World) (hS : xs = l) (h : ITc wb t3 many first xs W) : FTc wb t3 many first l.length xs W := by
  subst hS
  refine ⟨h.n, h.low, fun hf => ?_, fun _ => rfl⟩
  have := h.go hf
  omega
theorem IXc.fin {wb : World} {t3 : TypeId} {many : Int} {first : Bool} {id : Nat} {l : List α} (c : Code) (xs : List α) (W : World) (hS : ∃ rest, xs ++ rest = l) (h : IXc wb t3 many first id c xs W) : c = .exit id ∧ FTc wb t3 many first l.length xs W := by
  obtain ⟨rest, rfl⟩ := hS
  have h3 := h.pos
  have h5 := h.at'
  have h6 := h.was
  refine ⟨h.c, h.n, h.low, fun _ => ?_, fun hf => by rw [h.first] at hf; cases hf⟩
  rw [List.length_append]
  omega
/-- A round has counted. -/
theorem ITc.round {wb W : World} {t3 : TypeId} {many : Int} {first : Bool} {pre : List α} (h : ITc wb t3 many first pre W) (x : α) (T : TypeId → Bool) (q : Nat) (u : Value) (hu : u = .int .i64 ((pre.length : Int) + 1)) :
    let W' := (W.drewN q).setCell ⟨wb.heap.size, 0, none⟩ u
    KeepsT (fun k => k < wb.heap.size) (wb.heap.size + 1) T W W' ∧ Blk W' wb.heap.size [.int .i64 (((pre ++ [x]).length : Nat) : Int)] t3 ∧ Below wb.heap.size wb W' := by
  subst hu
  dsimp only
  have e1 : ((pre ++ [x]).length : Int) = (pre.length : Int) + 1 := by simp
  refine ⟨(KeepsT.drew q).trans (KeepsT.set _ ⟨wb.heap.size, 0, none⟩ _ (by simp) (by simp)), ?_, ?_⟩
  · rw [e1]
    exact Blk.set (w := W.drewN q) h.n 0 _
  · exact (below_drewN h.low q).setCell (p := ⟨wb.heap.size, 0, none⟩) (Nat.le_refl _) _
theorem ITc.exit {wb W : World} {t3 : TypeId} {many : Int} {id : Nat} {pre : List α} {x : α} (hn : Blk W wb.heap.size [.int .i64 (((pre ++ [x]).length : Nat) : Int)] t3) (hb : Below wb.heap.size wb W) (h4 : pre.length = 0 ∨ (pre.length : Int) < many) (hm : many ≤ (pre.length : Int) + 1) : IXc wb t3 many true id (.exit id) (pre ++ [x]) W := by
  refine ⟨hn, hb, rfl, rfl, ?_, ?_, ?_⟩ <;> simp only [List.length_append, List.length_cons, List.length_nil] <;> omega
theorem ITc.next {wb W : World} {t3 : TypeId} {many : Int} {first : Bool} {pre : List α} {x : α} (hn : Blk W wb.heap.size [.int .i64 (((pre ++ [x]).length : Nat) : Int)] t3) (hb : Below wb.heap.size wb W) (hm : (pre.length : Int) + 1 < many) : ITc wb t3 many first (pre ++ [x]) W :=
  ⟨hn, hb, fun _ => .inr (by simp only [List.length_append, List.length_cons, List.length_nil]; omega)⟩
theorem ITc.late {wb W : World} {t3 : TypeId} {many : Int} {pre : List α} {x : α} (hn : Blk W wb.heap.size [.int .i64 (((pre ++ [x]).length : Nat) : Int)] t3) (hb : Below wb.heap.size wb W) : ITc wb t3 many false (pre ++ [x]) W :=
  ⟨hn, hb, fun e => by cases e⟩
theorem next_of_pre {l pre : List α} {x : α} (h : ∃ rest, (pre ++ [x]) ++ rest = l) : l[pre.length]? = some x ∧ pre.length < l.length := by
  obtain ⟨rest, rfl⟩ := h
  constructor
  · rw [List.append_assoc, List.getElem?_append_right (Nat.le_refl _), Nat.sub_self]
    rfl
  · simp
end
end Go.Port
