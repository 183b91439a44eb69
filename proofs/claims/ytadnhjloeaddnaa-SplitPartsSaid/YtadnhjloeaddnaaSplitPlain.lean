/-
  Plain laws of layer 34 (split): the places where data may be cut, the cheapest predecessor of each, the cut points of least cost; that no other cut points are cheaper. No program in sight.
-/
import Derived.Test.YtadnhjloeaddnaaLogs
namespace Go.Port

/-! ### The least element of a list -/
def leastR : List Int → Nat × Int
  | [] => (0, 0)
  | v :: r => if r.length = 0 ∨ v < (leastR r).2 then (r.length, v) else leastR r
def leastS (vs : List Int) : Nat × Int := leastR vs.reverse

theorem leastS_nil : leastS [] = (0, 0) := rfl
theorem leastS_snoc (vs : List Int) (v : Int) : leastS (vs ++ [v]) = if vs.length = 0 ∨ v < (leastS vs).2 then (vs.length, v) else leastS vs := by
  simp [leastS, leastR]

theorem leastR_spec : ∀ r : List Int, r ≠ [] → (leastR r).1 < r.length ∧ r.reverse[(leastR r).1]? = some (leastR r).2 ∧ ∀ v ∈ r, (leastR r).2 ≤ v
  | [], h => absurd rfl h
  | v :: r, _ => by
    by_cases hr : r = []
    · subst hr
      simp [leastR]
    · have ih := leastR_spec r hr
      have hlen : r.length ≠ 0 := fun h => hr (List.eq_nil_of_length_eq_zero h)
      unfold leastR
      split
      · rename_i h
        have hv : v < (leastR r).2 := by omega
        refine ⟨by simp, by simp, fun u hu => ?_⟩
        rcases List.mem_cons.1 hu with rfl | hu
        · exact Int.le_refl _
        · have := ih.2.2 u hu
          dsimp only
          omega
      · rename_i h
        refine ⟨by simp; omega, ?_, fun u hu => ?_⟩
        · rw [List.reverse_cons, List.getElem?_append_left (by simpa using ih.1)]
          exact ih.2.1
        · rcases List.mem_cons.1 hu with rfl | hu
          · omega
          · exact ih.2.2 u hu

theorem leastS_spec (vs : List Int) (h : vs ≠ []) : (leastS vs).1 < vs.length ∧ vs[(leastS vs).1]? = some (leastS vs).2 ∧ ∀ v ∈ vs, (leastS vs).2 ≤ v := by
  have := leastR_spec vs.reverse (by simpa using h)
  simpa [leastS] using this

/-! ### Places -/
def seg (bs : List UInt8) (i j : Nat) : List UInt8 := (bs.drop i).take (j - i)
def nPl (n g : Nat) : Nat := (n + g - 1) / g + 1
def place (n g k : Nat) : Nat := min (k * g) n
def placesN (n g : Nat) : List Nat := (List.range (nPl n g)).map (place n g)

theorem place_zero (n g : Nat) : place n g 0 = 0 := by simp [place]
theorem place_last (n g : Nat) (hg : 0 < g) : place n g (nPl n g - 1) = n := by
  unfold place nPl
  rw [Nat.add_sub_cancel]
  have h1 := Nat.div_add_mod (n + g - 1) g
  have h2 := Nat.mod_lt (n + g - 1) hg
  rw [Nat.mul_comm] at h1
  omega
theorem place_lt (n g k : Nat) (hg : 0 < g) (hk : k + 1 < nPl n g) : k * g < n := by
  unfold nPl at hk
  have hk' : k + 1 ≤ (n + g - 1) / g := by omega
  rw [Nat.le_div_iff_mul_le hg, Nat.add_mul] at hk'
  omega
theorem place_of_lt (n g k : Nat) (hg : 0 < g) (hk : k + 1 < nPl n g) : place n g k = k * g := by
  have := place_lt n g k hg hk
  unfold place
  omega
/-- A multiple of the grain below the size is a place ahead of the last one. -/
theorem lt_nPl (n g k : Nat) (hg : 0 < g) (h : k * g < n) : k + 1 < nPl n g := by
  unfold nPl
  have : k + 1 ≤ (n + g - 1) / g := by
    rw [Nat.le_div_iff_mul_le hg, Nat.add_mul]
    omega
  omega
theorem place_mono (n g : Nat) {i j : Nat} (h : i ≤ j) : place n g i ≤ place n g j := by
  unfold place
  have := Nat.mul_le_mul_right g h
  omega
theorem place_strict (n g : Nat) (hg : 0 < g) {i j : Nat} (h : i < j) (hj : j < nPl n g) : place n g i < place n g j := by
  have h1 := place_lt n g i hg (by omega)
  have : i * g + g ≤ j * g := by rw [← Nat.succ_mul]; exact Nat.mul_le_mul_right g h
  unfold place
  omega
theorem place_le (n g k : Nat) : place n g k ≤ n := by unfold place; omega
theorem place_step (n g k : Nat) : place n g (k + 1) - place n g k ≤ g := by
  unfold place
  rw [Nat.succ_mul]
  omega

/-! ### The cheapest predecessors -/
section
variable (bs : List UInt8) (g m : Nat)

def okStep (i k : Nat) : Bool := decide (place bs.length g k - place bs.length g i ≤ m)
def cands (k : Nat) : List Nat := (List.range k).filter fun i => okStep bs g m i k
def segK (i k : Nat) : List UInt8 := seg bs (place bs.length g i) (place bs.length g k)

def dp : Nat → List (Nat × Int)
  | 0 => [(0, 0)]
  | k + 1 =>
    let r := leastS ((cands bs g m (k + 1)).map fun i => ((dp k).getD i (0, 0)).2 + partS (segK bs g i (k + 1)))
    dp k ++ [((cands bs g m (k + 1)).getD r.1 0, r.2)]

def way (k : Nat) : Nat × Int := (dp bs g m k).getD k (0, 0)

theorem dp_length (k : Nat) : (dp bs g m k).length = k + 1 := by
  induction k with
  | zero => rfl
  | succ k ih => simp [dp, ih]

theorem dp_get {j k : Nat} (h : k ≤ j) : (dp bs g m j)[k]? = some (way bs g m k) := by
  induction j with
  | zero =>
    obtain rfl : k = 0 := by omega
    rfl
  | succ j ih =>
    rcases Nat.lt_or_ge k (j + 1) with hlt | hge
    · rw [dp, List.getElem?_append_left (by rw [dp_length]; omega)]
      exact ih (by omega)
    · obtain rfl : k = j + 1 := by omega
      unfold way
      rw [List.getD_eq_getElem?_getD]
      cases he : (dp bs g m (j + 1))[j + 1]? with
      | none =>
        rw [List.getElem?_eq_none_iff, dp_length] at he
        omega
      | some x => rfl

theorem dp_getD {j k : Nat} (h : k ≤ j) : (dp bs g m j).getD k (0, 0) = way bs g m k := by
  rw [List.getD_eq_getElem?_getD, dp_get bs g m h]; rfl

theorem way_zero : way bs g m 0 = (0, 0) := rfl

theorem way_succ (k : Nat) : way bs g m (k + 1) =
    ((cands bs g m (k + 1)).getD (leastS ((cands bs g m (k + 1)).map fun i => (way bs g m i).2 + partS (segK bs g i (k + 1)))).1 0,
     (leastS ((cands bs g m (k + 1)).map fun i => (way bs g m i).2 + partS (segK bs g i (k + 1)))).2) := by
  have h : ((cands bs g m (k + 1)).map fun i => ((dp bs g m k).getD i (0, 0)).2 + partS (segK bs g i (k + 1))) = (cands bs g m (k + 1)).map fun i => (way bs g m i).2 + partS (segK bs g i (k + 1)) := by
    apply List.map_congr_left
    intro i hi
    have : i < k + 1 := by
      unfold cands at hi
      simpa using (List.mem_filter.1 hi).1
    rw [dp_getD bs g m (by omega)]
  show ((dp bs g m (k + 1)).getD (k + 1) (0, 0)) = _
  rw [dp]
  simp only [h]
  rw [List.getD_eq_getElem?_getD, List.getElem?_append_right (by rw [dp_length]; omega), dp_length]
  simp

theorem mem_cands {i k : Nat} : i ∈ cands bs g m k ↔ i < k ∧ place bs.length g k - place bs.length g i ≤ m := by
  simp [cands, okStep]

variable (hgm : g ≤ m)
include hgm

theorem cands_ne (k : Nat) : cands bs g m (k + 1) ≠ [] := by
  have h : k ∈ cands bs g m (k + 1) := by
    rw [mem_cands bs g m]
    have := place_step bs.length g k
    omega
  intro e
  rw [e] at h
  cases h

/-- The predecessor of a place, and the cost up to it. -/
theorem way_spec (k : Nat) : (way bs g m (k + 1)).1 ≤ k ∧ place bs.length g (k + 1) - place bs.length g (way bs g m (k + 1)).1 ≤ m ∧
    (way bs g m (k + 1)).2 = (way bs g m (way bs g m (k + 1)).1).2 + partS (segK bs g (way bs g m (k + 1)).1 (k + 1)) ∧
    ∀ i, i < k + 1 → place bs.length g (k + 1) - place bs.length g i ≤ m → (way bs g m (k + 1)).2 ≤ (way bs g m i).2 + partS (segK bs g i (k + 1)) := by
  have hne := cands_ne bs g m hgm k
  have hs := leastS_spec ((cands bs g m (k + 1)).map fun i => (way bs g m i).2 + partS (segK bs g i (k + 1))) (by simpa using hne)
  have hw := way_succ bs g m k
  obtain ⟨h1, h2, h3⟩ := hs
  rw [List.length_map] at h1
  rw [List.getElem?_map, List.getElem?_eq_getElem h1, Option.map_some, Option.some.injEq] at h2
  have hfst : (way bs g m (k + 1)).1 = (cands bs g m (k + 1))[(leastS ((cands bs g m (k + 1)).map fun i => (way bs g m i).2 + partS (segK bs g i (k + 1)))).1] := by
    rw [hw]
    simp [List.getD_eq_getElem?_getD, List.getElem?_eq_getElem h1]
  have hsnd : (way bs g m (k + 1)).2 = (leastS ((cands bs g m (k + 1)).map fun i => (way bs g m i).2 + partS (segK bs g i (k + 1)))).2 := by rw [hw]
  have hmem : (way bs g m (k + 1)).1 ∈ cands bs g m (k + 1) := by rw [hfst]; exact List.getElem_mem h1
  rw [mem_cands bs g m] at hmem
  refine ⟨by omega, hmem.2, ?_, fun i hi hm => ?_⟩
  · rw [hsnd, ← h2, hfst]
  · rw [hsnd]
    exact h3 _ (List.mem_map.2 ⟨i, (mem_cands bs g m).2 ⟨hi, hm⟩, rfl⟩)

theorem way_le (k : Nat) : (way bs g m k).1 ≤ k := by
  cases k with
  | zero => simp [way_zero]
  | succ k => have := (way_spec bs g m hgm k).1; omega

theorem way_nonneg (k : Nat) : 0 ≤ (way bs g m k).2 := by
  induction k using Nat.strongRecOn with
  | _ k ih =>
    cases k with
    | zero => simp [way_zero]
    | succ k =>
      obtain ⟨h1, _, h3, _⟩ := way_spec bs g m hgm k
      have := ih _ (by omega : (way bs g m (k + 1)).1 < k + 1)
      have := partS_nonneg (segK bs g (way bs g m (k + 1)).1 (k + 1))
      omega

theorem way_bound (k : Nat) : (way bs g m k).2 ≤ 9007199254773760 * k := by
  induction k using Nat.strongRecOn with
  | _ k ih =>
    cases k with
    | zero => simp [way_zero]
    | succ k =>
      obtain ⟨h1, _, h3, _⟩ := way_spec bs g m hgm k
      have := ih _ (by omega : (way bs g m (k + 1)).1 < k + 1)
      have := partS_bound (segK bs g (way bs g m (k + 1)).1 (k + 1))
      omega
end

/-! ### The cut points -/
section
variable (bs : List UInt8) (g m : Nat)

/-- From the last cut point back. -/
def backGo : Nat → Nat → List Nat
  | 0, _ => []
  | f + 1, k => if k = 0 then [] else place bs.length g k :: backGo f (way bs g m k).1

def cutsS : List Nat := (backGo bs g m (nPl bs.length g) (way bs g m (nPl bs.length g - 1)).1).reverse

/-- The cost of the parts that end at the points of a list. -/
def pathCost : Nat → List Nat → Int
  | _, [] => 0
  | last, c :: r => partS (seg bs last c) + pathCost c r

theorem pathCost_snoc (a : List Nat) (last c : Nat) : pathCost bs last (a ++ [c]) = pathCost bs last a + partS (seg bs (a.getLastD last) c) := by
  induction a generalizing last with
  | nil => simp [pathCost]
  | cons x a ih =>
    simp only [List.cons_append, pathCost, ih]
    cases a with
    | nil => simp [pathCost]
    | cons y a => simp only [List.getLastD_cons]; omega

variable (hg : 0 < g) (hgm : g ≤ m)
include hg hgm

omit hg in
theorem back_cost (f k : Nat) (h : k ≤ f) : pathCost bs 0 (backGo bs g m f k).reverse = (way bs g m k).2 ∧ (backGo bs g m f k).reverse.getLastD 0 = place bs.length g k := by
  induction f generalizing k with
  | zero =>
    obtain rfl : k = 0 := by omega
    simp [backGo, pathCost, way_zero, place_zero]
  | succ f ih =>
    cases k with
    | zero => simp [backGo, pathCost, way_zero, place_zero]
    | succ k =>
      obtain ⟨h1, _, h3, _⟩ := way_spec bs g m hgm k
      have := ih (way bs g m (k + 1)).1 (by omega)
      rw [backGo, if_neg (by omega), List.reverse_cons, pathCost_snoc, this.1, this.2]
      refine ⟨?_, by simp⟩
      rw [h3]
      rfl

/-- The cut points cost what the table says. -/
theorem cutsS_cost : pathCost bs 0 (cutsS bs g m ++ [bs.length]) = (way bs g m (nPl bs.length g - 1)).2 := by
  have hl := way_le bs g m hgm (nPl bs.length g - 1)
  obtain ⟨h1, h2⟩ := back_cost bs g m hgm (nPl bs.length g) (way bs g m (nPl bs.length g - 1)).1 (by omega)
  unfold cutsS
  rw [pathCost_snoc, h1, h2]
  cases hn : nPl bs.length g - 1 with
  | zero =>
    have hp := place_last bs.length g hg
    rw [hn, place_zero] at hp
    simp only [way_zero, place_zero, ← hp]
    simp [seg, partS]
  | succ k =>
    obtain ⟨_, _, h3, _⟩ := way_spec bs g m hgm k
    rw [h3]
    congr 2
    have hp := place_last bs.length g hg
    rw [hn] at hp
    unfold segK
    rw [hp]

/-- Cut points: each a multiple of the grain, above the one before, below the size, no part longer than the maximum. -/
def Good : Nat → List Nat → Prop
  | last, [] => bs.length - last ≤ m
  | last, c :: r => last < c ∧ c < bs.length ∧ c % g = 0 ∧ c - last ≤ m ∧ Good c r

theorem back_good (f k : Nat) (h : k ≤ f) (hk : k = 0 ∨ k + 1 < nPl bs.length g) (r : List Nat) (hr : Good bs g m (place bs.length g k) r) : Good bs g m 0 ((backGo bs g m f k).reverse ++ r) := by
  induction f generalizing k r with
  | zero =>
    obtain rfl : k = 0 := by omega
    rw [place_zero] at hr
    simpa [backGo] using hr
  | succ f ih =>
    cases k with
    | zero =>
      rw [place_zero] at hr
      simpa [backGo] using hr
    | succ k =>
      have hk' : k + 1 + 1 < nPl bs.length g := by omega
      obtain ⟨h1, h2, _, _⟩ := way_spec bs g m hgm k
      rw [backGo, if_neg (by omega), List.reverse_cons, List.append_assoc]
      refine ih (way bs g m (k + 1)).1 (by omega) (by omega) _ ⟨place_strict _ g hg (by omega) (by omega), ?_, ?_, h2, hr⟩
      · rw [place_of_lt _ _ _ hg hk']
        exact place_lt _ _ _ hg hk'
      · rw [place_of_lt _ _ _ hg hk']
        exact Nat.mul_mod_left _ _

/-- The cut points are cut points at multiples of the grain that respect the maximum. -/
theorem cutsS_good : Good bs g m 0 (cutsS bs g m) := by
  have hl := way_le bs g m hgm (nPl bs.length g - 1)
  have := back_good bs g m hg hgm (nPl bs.length g) (way bs g m (nPl bs.length g - 1)).1 (by omega) (by
    cases hn : nPl bs.length g - 1 with
    | zero => left; rfl
    | succ k =>
      have := (way_spec bs g m hgm k).1
      right
      omega) [] (by
    show bs.length - _ ≤ m
    cases hn : nPl bs.length g - 1 with
    | zero =>
      have hp := place_last bs.length g hg
      rw [hn, place_zero] at hp
      omega
    | succ k =>
      obtain ⟨_, h2, _, _⟩ := way_spec bs g m hgm k
      have hp := place_last bs.length g hg
      rw [hn] at hp
      rw [hp] at h2
      exact h2)
  simpa [cutsS] using this

theorem opt_from (r : List Nat) (i : Nat) (hi : i < nPl bs.length g) (h : Good bs g m (place bs.length g i) r) :
    (way bs g m (nPl bs.length g - 1)).2 ≤ (way bs g m i).2 + pathCost bs (place bs.length g i) (r ++ [bs.length]) := by
  induction r generalizing i with
  | nil =>
    have hp := place_last bs.length g hg
    rcases Nat.lt_or_ge i (nPl bs.length g - 1) with hlt | hge
    · cases hn : nPl bs.length g - 1 with
      | zero => omega
      | succ k =>
        rw [hn] at hp hlt
        obtain ⟨_, _, _, h4⟩ := way_spec bs g m hgm k
        have := h4 i hlt (by rw [hp]; exact h)
        unfold segK at this
        rw [hp] at this
        simp only [List.nil_append, pathCost]
        omega
    · obtain rfl : i = nPl bs.length g - 1 := by omega
      rw [hp]
      simp [pathCost, seg, partS]
  | cons c r ih =>
    obtain ⟨h1, h2, h3, h4, h5⟩ := h
    have hc : c = c / g * g := by
      have := Nat.div_add_mod c g
      rw [h3, Nat.mul_comm] at this
      omega
    have hi' : c / g + 1 < nPl bs.length g := lt_nPl _ _ _ hg (by omega)
    have hpc : place bs.length g (c / g) = c := by rw [place_of_lt _ _ _ hg hi', ← hc]
    have hlt : i < c / g := by
      rcases Nat.lt_or_ge i (c / g) with h | h
      · exact h
      · have := place_mono bs.length g h
        omega
    have := ih (c / g) (by omega) (by rw [hpc]; exact h5)
    rw [hpc] at this
    cases hk : c / g with
    | zero => omega
    | succ k =>
      obtain ⟨_, _, _, hle⟩ := way_spec bs g m hgm k
      have h6 := hle i (by omega) (by rw [← hk, hpc]; exact h4)
      unfold segK at h6
      rw [← hk, hpc] at h6
      simp only [List.cons_append, pathCost]
      omega

/-- No cut points at multiples of the grain that respect the maximum cost less. -/
theorem opt (cs : List Nat) (h : Good bs g m 0 cs) : (way bs g m (nPl bs.length g - 1)).2 ≤ pathCost bs 0 (cs ++ [bs.length]) := by
  have := opt_from bs g m hg hgm cs 0 (Nat.succ_pos _) (by rw [place_zero]; exact h)
  rw [place_zero, way_zero] at this
  simpa using this
end

/-! ### The reference's table: the least over all earlier places, -1 where there is none yet -/
section
variable (bs : List UInt8) (g m : Nat)

def refStep (k : Nat) (b : Int) (i : Nat) : Int :=
  if m < place bs.length g k - place bs.length g i then b
  else if b < 0 ∨ (way bs g m i).2 + partS (segK bs g i k) < b then (way bs g m i).2 + partS (segK bs g i k) else b

def refGo (k : Nat) : Nat → Int
  | 0 => -1
  | i + 1 => refStep bs g m k (refGo k i) i

variable (hgm : g ≤ m)
include hgm

theorem refGo_spec (k i : Nat) : (refGo bs g m k i = -1 ∧ ∀ j, j < i → m < place bs.length g k - place bs.length g j) ∨
    (0 ≤ refGo bs g m k i ∧ (∃ j, j < i ∧ place bs.length g k - place bs.length g j ≤ m ∧ refGo bs g m k i = (way bs g m j).2 + partS (segK bs g j k)) ∧
      ∀ j, j < i → place bs.length g k - place bs.length g j ≤ m → refGo bs g m k i ≤ (way bs g m j).2 + partS (segK bs g j k)) := by
  induction i with
  | zero => left; exact ⟨rfl, fun j hj => by omega⟩
  | succ i ih =>
    have hw := way_nonneg bs g m hgm i
    have hp := partS_nonneg (segK bs g i k)
    unfold refGo refStep
    split
    · rename_i hm
      rcases ih with ⟨h1, h2⟩ | ⟨h1, ⟨j, hj, hjm, he⟩, h3⟩
      · left
        refine ⟨h1, fun j hj => ?_⟩
        rcases Nat.lt_or_ge j i with h | h
        · exact h2 j h
        · obtain rfl : j = i := by omega
          exact hm
      · right
        refine ⟨h1, ⟨j, by omega, hjm, he⟩, fun j hj hjm => ?_⟩
        rcases Nat.lt_or_ge j i with h | h
        · exact h3 j h hjm
        · obtain rfl : j = i := by omega
          omega
    · rename_i hm
      split
      · rename_i hlt
        right
        refine ⟨by omega, ⟨i, by omega, by omega, rfl⟩, fun j hj hjm => ?_⟩
        rcases Nat.lt_or_ge j i with h | h
        · rcases ih with ⟨_, h2⟩ | ⟨h1, _, h3⟩
          · have := h2 j h
            omega
          · have := h3 j h hjm
            omega
        · obtain rfl : j = i := by omega
          exact Int.le_refl _
      · rename_i hge
        rcases ih with ⟨h1, h2⟩ | ⟨h1, ⟨j, hj, hjm, he⟩, h3⟩
        · omega
        · right
          refine ⟨h1, ⟨j, by omega, hjm, he⟩, fun j hj hjm => ?_⟩
          rcases Nat.lt_or_ge j i with h | h
          · exact h3 j h hjm
          · obtain rfl : j = i := by omega
            omega

/-- The reference's table is the program's. -/
theorem refGo_way (k : Nat) : refGo bs g m (k + 1) (k + 1) = (way bs g m (k + 1)).2 := by
  obtain ⟨h1, h2, h3, h4⟩ := way_spec bs g m hgm k
  rcases refGo_spec bs g m hgm (k + 1) (k + 1) with ⟨_, h⟩ | ⟨_, ⟨j, hj, hjm, he⟩, h⟩
  · have := h _ (by omega : (way bs g m (k + 1)).1 < k + 1)
    omega
  · have a := h _ (by omega : (way bs g m (k + 1)).1 < k + 1) h2
    have b := h4 j hj hjm
    omega
end

/-! ### Cut points as ints -/

/-- The length of the longest part, or nothing where the cuts are no cut points. -/
def risesGo (size : Int) : List Int → Int → Int → Option Int
  | [], longest, last => some (max longest (size - last))
  | c :: r, longest, last => if last < c ∧ c < size then risesGo size r (max longest (c - last)) c else none

def riseB (size : Int) : Int → List Int → Bool
  | _, [] => true
  | last, c :: r => decide (last < c) && decide (c < size) && riseB size c r

/-- No part is longer than m. -/
def mayB (m size : Int) : Int → List Int → Bool
  | last, [] => decide (size - last ≤ m)
  | last, c :: r => decide (c - last ≤ m) && mayB m size c r

theorem rises_none (size : Int) (cs : List Int) (L T : Int) : risesGo size cs L T = none ↔ riseB size T cs = false := by
  induction cs generalizing L T with
  | nil => simp [risesGo, riseB]
  | cons c r ih =>
    simp only [risesGo, riseB]
    split
    · rename_i h
      rw [ih]
      simp [h.1, h.2]
    · rename_i h
      simp only [true_iff, Bool.and_eq_false_iff, decide_eq_false_iff_not]
      left
      omega

theorem rises_le (size : Int) (cs : List Int) (L T x m : Int) (h : risesGo size cs L T = some x) : x ≤ m ↔ (L ≤ m ∧ mayB m size T cs = true) := by
  induction cs generalizing L T with
  | nil =>
    simp only [risesGo, Option.some.injEq] at h
    simp only [mayB, decide_eq_true_eq]
    omega
  | cons c r ih =>
    simp only [risesGo] at h
    split at h
    · rw [ih _ _ h]
      simp only [mayB, Bool.and_eq_true, decide_eq_true_eq]
      exact ⟨fun ⟨h1, h2⟩ => ⟨by omega, by omega, h2⟩, fun ⟨h1, h2, h3⟩ => ⟨by omega, h3⟩⟩
    · cases h

theorem rises_bounds (size : Int) (cs : List Int) (L T x : Int) (h : risesGo size cs L T = some x) (hL : 0 ≤ L ∧ L ≤ size) (hT : 0 ≤ T ∧ T ≤ size) : 0 ≤ x ∧ x ≤ size := by
  induction cs generalizing L T with
  | nil =>
    simp only [risesGo, Option.some.injEq] at h
    omega
  | cons c r ih =>
    simp only [risesGo] at h
    split at h
    · exact ih _ _ h (by omega) (by omega)
    · cases h

/-- The parts that end at the points of a list, each with its start. -/
def partsGo (bs : List UInt8) : Int → List Int → List (Int × List UInt8)
  | _, [] => []
  | last, c :: r => (last, seg bs last.toNat c.toNat) :: partsGo bs c r

def worthGo (bs : List UInt8) : Int → List Int → Int
  | _, [] => 0
  | last, c :: r => partS (seg bs last.toNat c.toNat) + worthGo bs c r

theorem worthGo_parts (bs : List UInt8) (last : Int) (cs : List Int) : ((partsGo bs last cs).map fun p => partS p.2).sum = worthGo bs last cs := by
  induction cs generalizing last with
  | nil => rfl
  | cons c r ih => simp [partsGo, worthGo, ih]

theorem worthGo_nat (bs : List UInt8) (last : Nat) (cs : List Nat) : worthGo bs (last : Int) (cs.map fun (c : Nat) => (c : Int)) = pathCost bs last cs := by
  induction cs generalizing last with
  | nil => rfl
  | cons c r ih =>
    simp only [List.map_cons, worthGo, pathCost, ih, Int.toNat_natCast]

theorem worthGo_bounds (bs : List UInt8) (last : Int) (cs : List Int) : 0 ≤ worthGo bs last cs ∧ worthGo bs last cs ≤ 9007199254773760 * cs.length := by
  induction cs generalizing last with
  | nil => simp [worthGo]
  | cons c r ih =>
    have h1 := ih c
    have h2 := partS_nonneg (seg bs last.toNat c.toNat)
    have h3 := partS_bound (seg bs last.toNat c.toNat)
    simp only [worthGo, List.length_cons]
    omega

/-- Ints that are cut points, multiples of the grain and respect the maximum: good. -/
theorem good_of_ints (bs : List UInt8) (g m : Nat) (cs : List Int) (last : Nat) (h1 : riseB bs.length last cs = true) (h2 : mayB m bs.length last cs = true) (h3 : ∀ c ∈ cs, c % (g : Int) = 0) :
    ∃ ds : List Nat, cs = ds.map (fun (c : Nat) => (c : Int)) ∧ Good bs g m last ds := by
  induction cs generalizing last with
  | nil =>
    refine ⟨[], rfl, ?_⟩
    simp only [mayB, decide_eq_true_eq] at h2
    show bs.length - last ≤ m
    omega
  | cons c r ih =>
    simp only [riseB, mayB, Bool.and_eq_true, decide_eq_true_eq] at h1 h2
    obtain ⟨d, rfl⟩ : ∃ d : Nat, c = (d : Int) := ⟨c.toNat, by omega⟩
    obtain ⟨ds, hds, hg⟩ := ih d h1.2 h2.2 (fun c hc => h3 c (List.mem_cons_of_mem _ hc))
    refine ⟨d :: ds, by simp [hds], by omega, by omega, ?_, by omega, hg⟩
    have := h3 d (by simp)
    omega

theorem ints_of_good (bs : List UInt8) (g m : Nat) (ds : List Nat) (last : Nat) (h : Good bs g m last ds) :
    riseB bs.length last (ds.map fun (c : Nat) => (c : Int)) = true ∧ mayB m bs.length last (ds.map fun (c : Nat) => (c : Int)) = true ∧ ∀ d ∈ ds, d % g = 0 := by
  induction ds generalizing last with
  | nil =>
    have : bs.length - last ≤ m := h
    refine ⟨rfl, ?_, fun _ h => by cases h⟩
    simp only [List.map_nil, mayB, decide_eq_true_eq]
    omega
  | cons d r ih =>
    obtain ⟨h1, h2, h3, h4, h5⟩ := h
    obtain ⟨a, b, c⟩ := ih d h5
    simp only [List.map_cons, riseB, mayB, Bool.and_eq_true, decide_eq_true_eq]
    refine ⟨⟨⟨by omega, by omega⟩, a⟩, ⟨by omega, b⟩, fun x hx => ?_⟩
    rcases List.mem_cons.1 hx with rfl | hx
    · exact h3
    · exact c x hx

/-- The parts make up the data. -/
theorem parts_join (bs : List UInt8) (last : Nat) (cs : List Int) (h : riseB bs.length last cs = true) (hl : last ≤ bs.length) :
    ((partsGo bs last (cs ++ [(bs.length : Int)])).map fun p => p.2).flatten = bs.drop last := by
  induction cs generalizing last with
  | nil =>
    simp only [List.nil_append, partsGo, List.map_cons, List.map_nil, List.flatten_cons, List.flatten_nil, List.append_nil, Int.toNat_natCast, seg]
    rw [List.take_of_length_le (by simp)]
  | cons c r ih =>
    simp only [riseB, Bool.and_eq_true, decide_eq_true_eq] at h
    obtain ⟨d, rfl⟩ : ∃ d : Nat, c = (d : Int) := ⟨c.toNat, by omega⟩
    have := ih d h.2 (by omega)
    simp only [List.cons_append, partsGo, List.map_cons, List.flatten_cons, this, Int.toNat_natCast, seg]
    have e : bs.drop d = (bs.drop last).drop (d - last) := by
      rw [List.drop_drop]
      congr 1
      omega
    rw [e, List.take_append_drop]
end Go.Port
