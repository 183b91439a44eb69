/-
  Plain laws of layer 34, second part: a part costs at most 49152 a byte; the predecessors in reach of a place are a range.
-/
import Derived.Test.YtadnhjloeaddnaaSplitPlain
namespace Go.Port

theorem costGo_le {T : Int} (hT : 0 ≤ T) (hT1 : T < 4611686018427387904) {l : List Int} (h : ∀ c ∈ l, Cnt c) : costGo T l ≤ 16384 * l.sum := by
  induction l with
  | nil => simp [costGo]
  | cons c l ih =>
    have h2 := ih (fun c hc => h c (by simp [hc]))
    obtain ⟨h0, h1⟩ := h c (by simp)
    simp only [costGo, List.sum_cons]
    split
    · rename_i hc
      have hc' := lg_bounds hc (by omega)
      have hT' : 0 ≤ lg T ∧ lg T < 16384 := by
        rcases Int.lt_or_le 0 T with h | h
        · exact lg_bounds h hT1
        · have : T = 0 := by omega
          subst this
          decide
      have h3 : c * (lg T - lg c) ≤ c * 16384 := Int.mul_le_mul_of_nonneg_left (by omega) h0
      omega
    · omega

theorem sum_set (h : List Int) (k : Nat) (x c : Int) (hc : h[k]? = some c) : (h.set k x).sum = h.sum - c + x := by
  induction h generalizing k with
  | nil => simp at hc
  | cons y h ih =>
    cases k with
    | zero =>
      simp only [List.getElem?_cons_zero, Option.some.injEq] at hc
      subst hc
      simp only [List.set_cons_zero, List.sum_cons]
      omega
    | succ k =>
      simp only [List.getElem?_cons_succ] at hc
      have := ih k hc
      simp only [List.set_cons_succ, List.sum_cons, this]
      omega

theorem bump_sum (h : List Int) (c : UInt8) : (bump h c).sum ≤ h.sum + 1 := by
  unfold bump
  cases hc : h[c.toNat]? with
  | none =>
    rw [List.set_eq_of_length_le (List.getElem?_eq_none_iff.1 hc)]
    omega
  | some x =>
    rw [sum_set h _ _ x hc, List.getD_eq_getElem?_getD, hc, Option.getD_some]
    omega

theorem bumps_sum (h : List Int) (bs : List UInt8) : (bumps h bs).sum ≤ h.sum + bs.length := by
  induction bs generalizing h with
  | nil => simp [bumps]
  | cons c bs ih =>
    have h1 := ih (bump h c)
    have h2 := bump_sum h c
    rw [bumps, List.foldl_cons] at *
    simp only [List.length_cons]
    omega

theorem zeros_sum : zeros.sum = 0 := by
  unfold zeros
  generalize 256 = n
  induction n with
  | zero => rfl
  | succ n ih => simp [List.replicate_succ, ih]

theorem histS_sum (bs : List UInt8) : (histS bs).sum ≤ bs.length := by
  have := bumps_sum zeros bs
  rw [zeros_sum] at this
  unfold histS
  omega

theorem partS_le (bs : List UInt8) : partS bs ≤ 49152 * bs.length := by
  unfold partS
  split
  · omega
  · rename_i hne
    have h1 : 0 < bs.length := List.length_pos_iff.2 hne
    have hs := histS_sum bs
    have hb := sum_bounds (histS_cnt bs)
    rw [histS_length] at hb
    have h2 := costGo_le hb.1 (by omega) (histS_cnt bs)
    unfold costS
    omega

theorem seg_length (bs : List UInt8) (i j : Nat) (hj : j ≤ bs.length) : (seg bs i j).length = j - i := by
  unfold seg
  rw [List.length_take, List.length_drop]
  omega

section
variable (bs : List UInt8) (g m : Nat) (hgm : g ≤ m)
include hgm

theorem way_small (k : Nat) : (way bs g m k).2 ≤ 49152 * (place bs.length g k : Nat) := by
  induction k using Nat.strongRecOn with
  | _ k ih =>
    cases k with
    | zero =>
      simp only [way_zero]
      omega
    | succ k =>
      obtain ⟨h1, _, h3, _⟩ := way_spec bs g m hgm k
      have h4 := ih _ (by omega : (way bs g m (k + 1)).1 < k + 1)
      have h5 := partS_le (segK bs g (way bs g m (k + 1)).1 (k + 1))
      unfold segK at h3 h5
      rw [seg_length _ _ _ (place_le _ _ _)] at h5
      have h6 := place_mono bs.length g (show (way bs g m (k + 1)).1 ≤ k + 1 by omega)
      omega
end

/-- The predecessors in reach: from the first one on. -/
theorem cands_range (bs : List UInt8) (g m k f : Nat) (hf : f ≤ k) (h1 : ∀ i, i < f → m < place bs.length g k - place bs.length g i) (h2 : place bs.length g k - place bs.length g f ≤ m) :
    cands bs g m k = List.range' f (k - f) := by
  unfold cands
  have e : List.range k = List.range' 0 f ++ List.range' f (k - f) := by
    rw [List.range_eq_range']
    have := List.range'_append (s := 0) (m := f) (n := k - f) (step := 1)
    rw [Nat.one_mul, Nat.zero_add] at this
    rw [this]
    congr 1
    omega
  rw [e, List.filter_append, List.filter_eq_nil_iff.2, List.filter_eq_self.2, List.nil_append]
  · intro i hi
    have hi' := (List.mem_range'_1.1 hi).1
    have := place_mono bs.length g hi'
    unfold okStep
    simp only [decide_eq_true_eq]
    omega
  · intro i hi
    have hi' := (List.mem_range'_1.1 hi).2
    have := h1 i (by omega)
    unfold okStep
    simp only [decide_eq_true_eq]
    omega

theorem way_range (bs : List UInt8) (g m k f : Nat) (hf : f ≤ k) (h1 : ∀ i, i < f → m < place bs.length g (k + 1) - place bs.length g i) (h2 : place bs.length g (k + 1) - place bs.length g f ≤ m) :
    way bs g m (k + 1) = (f + (leastS ((List.range' f (k + 1 - f)).map fun i => (way bs g m i).2 + partS (segK bs g i (k + 1)))).1,
      (leastS ((List.range' f (k + 1 - f)).map fun i => (way bs g m i).2 + partS (segK bs g i (k + 1)))).2) ∧
    (leastS ((List.range' f (k + 1 - f)).map fun i => (way bs g m i).2 + partS (segK bs g i (k + 1)))).1 < k + 1 - f := by
  have hw := way_succ bs g m k
  rw [cands_range bs g m (k + 1) f (by omega) h1 h2] at hw
  have hl := (leastS_spec ((List.range' f (k + 1 - f)).map fun i => (way bs g m i).2 + partS (segK bs g i (k + 1))) (by
    rw [Ne, List.map_eq_nil_iff, ← List.length_eq_zero_iff, List.length_range']
    omega)).1
  rw [List.length_map, List.length_range'] at hl
  refine ⟨?_, hl⟩
  rw [hw, List.getD_eq_getElem?_getD, List.getElem?_range' hl]
  simp

theorem seg_join (bs : List UInt8) (i j : Nat) (h : i ≤ j) : bs.take i ++ seg bs i j = bs.take j := by
  unfold seg
  have := List.take_add (l := bs) (i := i) (j := j - i)
  rw [Nat.add_sub_cancel' h] at this
  exact this.symm

theorem seg_zip (bs : List UInt8) (i j : Nat) (h : i ≤ j) (hl : bs.length ≤ 2147483648) : List.zipWith (· - ·) (histS (bs.take j)) (histS (bs.take i)) = histS (seg bs i j) := by
  have := histS_diff (bs.take i) (seg bs i j) (by rw [seg_join bs i j h, List.length_take]; omega)
  rw [seg_join bs i j h] at this
  exact this.symm

theorem seg_part (bs : List UInt8) (i j : Nat) (h : i < j) (hj : j ≤ bs.length) : costS (histS (seg bs i j)) + 32768 = partS (seg bs i j) := by
  unfold partS
  rw [if_neg]
  intro e
  have := seg_length bs i j hj
  rw [e] at this
  simp at this
  omega
end Go.Port
