/-
  Plain laws on memory: a block of rows of 256 counts; what is known of it after one count, or one whole row, is written. No program in sight.
-/
import Derived.Test.YtadnhjloeaddnaaBase
import Derived.Test.YtadnhjloeaddnaaLogs
import Derived.Deep.MidRow
namespace Go.Port
open Go.RowKit

/-- Writing cells into a block that is known whole. -/
theorem Blk.setCells {w : World} {b : Nat} {t : TypeId} : ∀ (us : List Value) {vs : List Value} (o : Nat), Blk w b vs t → o + us.length ≤ vs.length →
    ∃ vs', Blk (w.setCells b o us) b vs' t ∧ vs'.length = vs.length ∧ ∀ j, vs'[j]? = if o ≤ j ∧ j < o + us.length then us[j - o]? else vs[j]?
  | [], vs, o, h, _ => ⟨vs, h, rfl, fun j => by rw [if_neg (by simp)]⟩
  | u :: us, vs, o, h, hl => by
    simp only [List.length_cons] at hl
    obtain ⟨vs', h1, h2, h3⟩ := Blk.setCells us (o + 1) (h.set o u) (by simp only [List.length_set]; omega)
    refine ⟨vs', h1, by rw [h2, List.length_set], fun j => ?_⟩
    rw [h3 j]
    simp only [List.length_cons]
    by_cases hj : j = o
    · subst hj
      rw [if_neg (by omega), if_pos (by omega), List.getElem?_set_self (by omega), Nat.sub_self, List.getElem?_cons_zero]
    · by_cases hj2 : o + 1 ≤ j ∧ j < o + 1 + us.length
      · rw [if_pos hj2, if_pos (by omega)]
        have : j - o = (j - (o + 1)) + 1 := by omega
        rw [this, List.getElem?_cons_succ]
      · rw [if_neg hj2, if_neg (by omega), List.getElem?_set_ne (by omega)]

theorem below_setCells {B b : Nat} {a : World} (hb : B ≤ b) : ∀ (us : List Value) (o : Nat) {w : World}, Below B a w → Below B a (w.setCells b o us)
  | [], _, _, h => h
  | _ :: us, o, _, h => below_setCells hb us (o + 1) (h.setCell hb _)

/-- Block b holds n rows of 256 counts: row i is R i. -/
def RowsAt (w : World) (b n : Nat) (t : TypeId) (R : Nat → List Int) : Prop :=
  ∃ vs, Blk w b vs t ∧ vs.length = n * 256 ∧ (∀ i, i < n → (R i).length = 256) ∧ ∀ i s, i < n → s < 256 → vs[i * 256 + s]? = some (iv ((R i).getD s 0))

section
variable {w : World} {b n : Nat} {t : TypeId} {R : Nat → List Int}

theorem RowsAt.lt (h : RowsAt w b n t R) : b < w.heap.size := by
  obtain ⟨vs, h1, _⟩ := h
  exact h1.lt
theorem RowsAt.below {B : Nat} {w' : World} (h : RowsAt w b n t R) (hb : Below B w w') (hlt : b < B) : RowsAt w' b n t R := by
  obtain ⟨vs, h1, h2⟩ := h
  exact ⟨vs, h1.below hb hlt, h2⟩
theorem RowsAt.same {R' : Nat → List Int} (h : RowsAt w b n t R) (hR : ∀ i, i < n → R' i = R i) : RowsAt w b n t R' := by
  obtain ⟨vs, h1, h2, h3, h4⟩ := h
  exact ⟨vs, h1, h2, fun i hi => by rw [hR i hi]; exact h3 i hi, fun i s hi hs => by rw [hR i hi]; exact h4 i s hi hs⟩
theorem RowsAt.cell (h : RowsAt w b n t R) {i s : Nat} (hi : i < n) (hs : s < 256) : w.cell? ⟨b, i * 256 + s, none⟩ = some (.int .i64 ((R i).getD s 0)) := by
  obtain ⟨vs, h1, _, _, h4⟩ := h
  exact h1.cell (h4 i s hi hs)
theorem RowsAt.frozen (h : RowsAt w b n t R) (k : Nat) : w.frozen? ⟨b, k, none⟩ = false := by
  obtain ⟨vs, h1, _⟩ := h
  exact h1.frozen k
theorem RowsAt.range (h : RowsAt w b n t R) {i : Nat} (hi : i < n) : w.rangeAt b (i * 256) ((R i).map iv) := by
  obtain ⟨vs, h1, h2, h3, h4⟩ := h
  intro s u hu
  have hl := h3 i hi
  have hs : s < 256 := by
    have := (List.getElem?_eq_some_iff.1 hu).1
    rwa [List.length_map, hl] at this
  refine h1.cell ?_
  rw [h4 i s hi hs, ← hu, List.getElem?_map, List.getD_eq_getElem?_getD, List.getElem?_eq_getElem (by omega)]
  rfl
theorem RowsAt.there (h : RowsAt w b n t R) {i : Nat} (hi : i < n) : w.there b (i * 256) 256 := fun s hs => by
  rw [h.cell hi hs]
  exact ⟨rfl, h.frozen _⟩

/-- One count is written. -/
theorem RowsAt.set (h : RowsAt w b n t R) {i s : Nat} (x : Int) (hi : i < n) (hs : s < 256) : RowsAt (w.setCell ⟨b, i * 256 + s, none⟩ (.int .i64 x)) b n t (fun i' => if i' = i then (R i).set s x else R i') := by
  obtain ⟨vs, h1, h2, h3, h4⟩ := h
  refine ⟨_, h1.set _ _, by rw [List.length_set, h2], fun i' hi' => ?_, fun i' s' hi' hs' => ?_⟩
  · dsimp only
    split
    · rw [List.length_set, h3 i hi]
    · exact h3 i' hi'
  · have hlen : i * 256 + s < vs.length := by
      rw [h2]
      have := Nat.mul_le_mul_right 256 (show i + 1 ≤ n from hi)
      omega
    dsimp only
    by_cases e : i' = i
    · subst e
      rw [if_pos rfl]
      by_cases e2 : s' = s
      · subst e2
        rw [List.getElem?_set_self hlen, List.getD_eq_getElem?_getD, List.getElem?_set_self (by rw [h3 i' hi]; exact hs)]
        rfl
      · rw [List.getElem?_set_ne (by omega), h4 i' s' hi' hs', List.getD_eq_getElem?_getD, List.getD_eq_getElem?_getD, List.getElem?_set_ne (by omega)]
    · rw [if_neg e, List.getElem?_set_ne (by omega), h4 i' s' hi' hs']

/-- A whole row is written. -/
theorem RowsAt.setRow (h : RowsAt w b n t R) {i : Nat} (l : List Int) (hi : i < n) (hl : l.length = 256) : RowsAt (w.setCells b (i * 256) (l.map iv)) b n t (fun i' => if i' = i then l else R i') := by
  obtain ⟨vs, h1, h2, h3, h4⟩ := h
  have hle : i * 256 + (l.map iv).length ≤ vs.length := by
    rw [h2, List.length_map, hl]
    have := Nat.mul_le_mul_right 256 (show i + 1 ≤ n from hi)
    omega
  obtain ⟨vs', k1, k2, k3⟩ := h1.setCells (l.map iv) (i * 256) hle
  rw [List.length_map, hl] at k3
  refine ⟨vs', k1, by rw [k2, h2], fun i' hi' => ?_, fun i' s' hi' hs' => ?_⟩
  · dsimp only
    split
    · exact hl
    · exact h3 i' hi'
  · rw [k3]
    dsimp only
    by_cases e : i' = i
    · subst e
      rw [if_pos (show i' * 256 ≤ i' * 256 + s' ∧ i' * 256 + s' < i' * 256 + 256 by omega), if_pos rfl, Nat.add_sub_cancel_left, List.getElem?_map, List.getD_eq_getElem?_getD, List.getElem?_eq_getElem (by omega)]
      rfl
    · rw [if_neg (show ¬ (i * 256 ≤ i' * 256 + s' ∧ i' * 256 + s' < i * 256 + 256) by omega), if_neg e, h4 i' s' hi' hs']

/-- Rows as they are made. -/
theorem RowsAt.made (w : World) (n : Nat) (t : TypeId) (cs : Array Value) (hs : cs.size = n * 256) (hz : ∀ j, j < n * 256 → cs[j]? = some (.int .i64 0)) : RowsAt (w.alloc (.cells cs t)) w.heap.size n t (fun _ => zeros) := by
  have e : cs = cs.toList.toArray := rfl
  rw [e]
  refine ⟨cs.toList, Blk.new w _ t, by simpa using hs, fun _ _ => zeros_length, fun i s hi hs' => ?_⟩
  have h0 : zeros.getD s 0 = 0 := by
    unfold zeros
    rw [List.getD_eq_getElem?_getD, List.getElem?_replicate, if_pos hs', Option.getD_some]
  rw [h0]
  have := hz (i * 256 + s) (by
    have := Nat.mul_le_mul_right 256 (show i + 1 ≤ n from hi)
    omega)
  simpa [iv] using this
end

/-- A count that has not come to the greatest one. -/
theorem bump_plain (h : List Int) (c : UInt8) (x : Int) (hx : h[c.toNat]? = some x) (hb : x < 2147483648) : bump h c = h.set c.toNat (x + 1) := by
  unfold bump
  rw [List.getD_eq_getElem?_getD, hx, Option.getD_some]
  congr 1
  omega

theorem histS_le (bs : List UInt8) (s : Nat) (x : Int) (hl : bs.length ≤ 2147483648) (hx : (histS bs)[s]? = some x) : 0 ≤ x ∧ x ≤ bs.length := by
  have hs : s < 256 := by
    have := (List.getElem?_eq_some_iff.1 hx).1
    rwa [histS_length] at this
  have := histS_get bs s hs hl
  rw [List.getD_eq_getElem?_getD, hx, Option.getD_some] at this
  have h2 := List.countP_le_length (p := fun x : UInt8 => decide (x.toNat = s)) (l := bs)
  omega
end Go.Port
