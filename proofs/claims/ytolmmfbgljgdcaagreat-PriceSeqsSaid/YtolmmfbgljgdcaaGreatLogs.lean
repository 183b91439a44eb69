/-
  Plain arithmetic of layer 5: the fixed-point logarithm, the histogram of bytes, its cost. No program in sight.
-/
import Derived.WalkKit
namespace Go.Port

/-- The fixed-point logarithm as the program computes it. -/
def logN (n : Nat) : Nat :=
  if 8 ≤ Nat.log2 n then Nat.log2 n * 256 + (n - 2 ^ Nat.log2 n) / 2 ^ (Nat.log2 n - 8) else Nat.log2 n * 256 + (n - 2 ^ Nat.log2 n) * 2 ^ (8 - Nat.log2 n)

theorem log2_lo {n : Nat} (h : n ≠ 0) : 2 ^ Nat.log2 n ≤ n := Nat.log2_self_le h
theorem log2_hi (n : Nat) : n < 2 ^ (Nat.log2 n + 1) := Nat.lt_log2_self

/-- .. and in one formula. -/
theorem logN_eq (n : Nat) : logN n = Nat.log2 n * 256 + (n - 2 ^ Nat.log2 n) * 256 / 2 ^ Nat.log2 n := by
  unfold logN
  generalize hk : Nat.log2 n = k
  split
  · rename_i h8
    have e : 2 ^ k = 2 ^ (k - 8) * 256 := by
      rw [show (256 : Nat) = 2 ^ 8 from rfl, ← Nat.pow_add, Nat.sub_add_cancel h8]
    congr 1
    generalize n - 2 ^ k = m
    rw [e, Nat.mul_div_mul_right _ _ (by decide)]
  · rename_i h8
    have e : 256 = 2 ^ k * 2 ^ (8 - k) := by
      rw [← Nat.pow_add, show k + (8 - k) = 8 by omega]
    congr 1
    generalize n - 2 ^ k = m
    rw [e, ← Nat.mul_assoc, Nat.mul_comm m (2 ^ k), Nat.mul_assoc, Nat.mul_div_cancel_left _ (Nat.two_pow_pos k)]

theorem logN_bounds (n : Nat) (h : n ≠ 0) : Nat.log2 n * 256 ≤ logN n ∧ logN n < Nat.log2 n * 256 + 256 := by
  rw [logN_eq n]
  refine ⟨Nat.le_add_right _ _, Nat.add_lt_add_left ?_ _⟩
  rw [Nat.div_lt_iff_lt_mul (Nat.two_pow_pos _)]
  have h1 := log2_lo h
  have h2 := log2_hi n
  rw [Nat.pow_succ] at h2
  generalize 2 ^ Nat.log2 n = p at *
  omega

theorem logN_mono {a b : Nat} (ha : a ≠ 0) (h : a ≤ b) : logN a ≤ logN b := by
  have hb : b ≠ 0 := by omega
  have h1 := logN_bounds a ha
  have h2 := logN_bounds b hb
  have hk : Nat.log2 a ≤ Nat.log2 b := by
    rw [Nat.le_log2 hb]
    exact Nat.le_trans (log2_lo ha) h
  rcases Nat.lt_or_ge (Nat.log2 a) (Nat.log2 b) with hlt | hge
  · have : (Nat.log2 a + 1) * 256 ≤ Nat.log2 b * 256 := Nat.mul_le_mul_right _ hlt
    omega
  · have e : Nat.log2 a = Nat.log2 b := by omega
    rw [logN_eq a, logN_eq b, e]
    refine Nat.add_le_add_left (Nat.div_le_div_right (Nat.mul_le_mul_right _ ?_)) _
    omega

/-- One step of the reference's eight doublings. -/
def dbl (power : Nat) (s : Nat × Nat) : Nat × Nat := if power - s.2 ≤ s.2 then (2 * s.1 + 1, s.2 - (power - s.2)) else (2 * s.1, 2 * s.2)
def dbls (power : Nat) : Nat → Nat × Nat → Nat × Nat
  | 0, s => s
  | i + 1, s => dbl power (dbls power i s)

theorem dbls_spec (p k m : Nat) (hp : 0 < p) (hm : m < p) (i : Nat) : dbls p i (k, m) = (k * 2 ^ i + m * 2 ^ i / p, m * 2 ^ i % p) := by
  induction i with
  | zero => simp [dbls, Nat.div_eq_of_lt hm, Nat.mod_eq_of_lt hm]
  | succ i ih =>
    rw [dbls, ih]
    have hr := Nat.mod_lt (m * 2 ^ i) hp
    have hd := Nat.div_add_mod (m * 2 ^ i) p
    have e2 : m * 2 ^ (i + 1) = m * 2 ^ i * 2 := by rw [Nat.pow_succ, Nat.mul_assoc]
    have e3 : k * 2 ^ (i + 1) = 2 * (k * 2 ^ i) := by rw [Nat.pow_succ, ← Nat.mul_assoc, Nat.mul_comm]
    rw [e2, e3]
    generalize k * 2 ^ i = K at *
    generalize m * 2 ^ i = M at *
    unfold dbl
    dsimp only
    generalize hq : M / p = q at *
    generalize hrr : M % p = r at *
    have hM : M * 2 = p * (2 * q) + 2 * r := by
      have : p * (2 * q) = 2 * (p * q) := by rw [Nat.mul_left_comm]
      omega
    split
    · have hM' : M * 2 = p * (2 * q + 1) + (2 * r - p) := by
        rw [Nat.mul_add]
        omega
      have h1 : M * 2 / p = 2 * q + 1 := by
        rw [hM', Nat.mul_add_div hp, Nat.div_eq_of_lt (by omega), Nat.add_zero]
      have h2 : M * 2 % p = 2 * r - p := by
        rw [hM', Nat.mul_add_mod, Nat.mod_eq_of_lt (by omega)]
      rw [h1, h2]
      congr 1 <;> omega
    · have h1 : M * 2 / p = 2 * q := by
        rw [hM, Nat.mul_add_div hp, Nat.div_eq_of_lt (by omega), Nat.add_zero]
      have h2 : M * 2 % p = 2 * r := by
        rw [hM, Nat.mul_add_mod, Nat.mod_eq_of_lt (by omega)]
      rw [h1, h2]
      congr 1 <;> omega

theorem logN_dbls (n : Nat) (h : n ≠ 0) : (dbls (2 ^ Nat.log2 n) 8 (Nat.log2 n, n - 2 ^ Nat.log2 n)).1 = logN n := by
  have h1 := log2_lo h
  have h2 := log2_hi n
  rw [Nat.pow_succ] at h2
  rw [dbls_spec _ _ _ (Nat.two_pow_pos _) (by omega), logN_eq n]

/-- .. on ints. -/
def lg (x : Int) : Int := (logN x.toNat : Nat)

theorem lg_bounds {x : Int} (h0 : 0 < x) (h1 : x < 4611686018427387904) : 0 ≤ lg x ∧ lg x < 16384 := by
  have hn : x.toNat ≠ 0 := by omega
  have hb := logN_bounds x.toNat hn
  have hk : Nat.log2 x.toNat < 62 := by
    rw [Nat.log2_lt hn]
    show x.toNat < 4611686018427387904
    omega
  unfold lg
  omega

theorem lg_mono {a b : Int} (ha : 0 < a) (h : a ≤ b) : lg a ≤ lg b := by
  unfold lg
  have := logN_mono (a := a.toNat) (b := b.toNat) (by omega) (by omega)
  omega

/-! ### The cost of a histogram -/

def costGo (T : Int) : List Int → Int
  | [] => 0
  | c :: r => (if 0 < c then c * (lg T - lg c) else 0) + costGo T r

def costS (l : List Int) : Int := costGo l.sum l

theorem costGo_append (T : Int) (l r : List Int) : costGo T (l ++ r) = costGo T l + costGo T r := by
  induction l with
  | nil => simp [costGo]
  | cons c l ih => simp only [List.cons_append, costGo, ih]; omega

/-- A count that a histogram may hold. -/
def Cnt (c : Int) : Prop := 0 ≤ c ∧ c ≤ 2147483648

theorem sum_bounds {l : List Int} (h : ∀ c ∈ l, Cnt c) : 0 ≤ l.sum ∧ l.sum ≤ 2147483648 * l.length := by
  induction l with
  | nil => simp
  | cons c l ih =>
    have h1 := h c (by simp)
    have h2 := ih (fun c hc => h c (by simp [hc]))
    unfold Cnt at h1
    simp only [List.sum_cons, List.length_cons]
    omega

theorem mul_le_of {a b A B : Int} (ha0 : 0 ≤ a) (ha : a ≤ A) (hb0 : -B ≤ b) (hb : b ≤ B) (hB : 0 ≤ B) : -(A * B) ≤ a * b ∧ a * b ≤ A * B := by
  have h1 : a * b ≤ a * B := Int.mul_le_mul_of_nonneg_left hb ha0
  have h2 : a * (-B) ≤ a * b := Int.mul_le_mul_of_nonneg_left hb0 ha0
  have h3 : a * B ≤ A * B := Int.mul_le_mul_of_nonneg_right ha hB
  rw [Int.mul_neg] at h2
  omega

theorem term_bounds {T c : Int} (hT : 0 ≤ T) (hT1 : T < 4611686018427387904) (hc : Cnt c) : -35184372088832 ≤ (if 0 < c then c * (lg T - lg c) else 0) ∧ (if 0 < c then c * (lg T - lg c) else 0) ≤ 35184372088832 := by
  split
  · rename_i h
    obtain ⟨h0, h1⟩ := hc
    have hc' := lg_bounds h (by omega)
    have hT' : 0 ≤ lg T ∧ lg T < 16384 := by
      rcases Int.lt_or_le 0 T with h | h
      · exact lg_bounds h hT1
      · have : T = 0 := by omega
        subst this
        decide
    have := mul_le_of (a := c) (b := lg T - lg c) (A := 2147483648) (B := 16384) h0 h1 (by omega) (by omega) (by omega)
    omega
  · omega

theorem costGo_bounds {T : Int} (hT : 0 ≤ T) (hT1 : T < 4611686018427387904) {l : List Int} (h : ∀ c ∈ l, Cnt c) : -(35184372088832 * l.length) ≤ costGo T l ∧ costGo T l ≤ 35184372088832 * l.length := by
  induction l with
  | nil => simp [costGo]
  | cons c l ih =>
    have h1 := term_bounds hT hT1 (h c (by simp))
    have h2 := ih (fun c hc => h c (by simp [hc]))
    simp only [costGo, List.length_cons]
    omega

theorem le_sum {l : List Int} (h : ∀ c ∈ l, Cnt c) {c : Int} (hc : c ∈ l) : c ≤ l.sum := by
  induction l with
  | nil => cases hc
  | cons d l ih =>
    have hd := h d (by simp)
    have hs := sum_bounds (fun c hc => h c (List.mem_cons_of_mem _ hc))
    unfold Cnt at hd
    simp only [List.sum_cons]
    rcases List.mem_cons.1 hc with rfl | hc
    · omega
    · have := ih (fun c hc => h c (List.mem_cons_of_mem _ hc)) hc
      omega

theorem costGo_nonneg {T : Int} {l : List Int} (h : ∀ c ∈ l, c ≤ T) : 0 ≤ costGo T l := by
  induction l with
  | nil => simp [costGo]
  | cons c l ih =>
    have h2 := ih (fun c hc => h c (by simp [hc]))
    simp only [costGo]
    split
    · rename_i hc
      have := lg_mono hc (h c (by simp))
      have : 0 ≤ c * (lg T - lg c) := Int.mul_nonneg (by omega) (by omega)
      omega
    · omega

theorem costS_nonneg {l : List Int} (h : ∀ c ∈ l, Cnt c) : 0 ≤ costS l := costGo_nonneg fun _ hc => le_sum h hc

/-! ### The used symbols -/
def usedGo : Nat → List Int → List Int
  | _, [] => []
  | k, c :: r => (if 0 < c then [(k : Int)] else []) ++ usedGo (k + 1) r

theorem usedGo_append (k : Nat) (l r : List Int) : usedGo k (l ++ r) = usedGo k l ++ usedGo (k + l.length) r := by
  induction l generalizing k with
  | nil => simp [usedGo]
  | cons c l ih =>
    simp only [List.cons_append, usedGo, ih, List.append_assoc, List.length_cons]
    rw [show k + 1 + l.length = k + (l.length + 1) by omega]

theorem usedGo_length (k : Nat) (l : List Int) : (usedGo k l).length ≤ l.length := by
  induction l generalizing k with
  | nil => simp [usedGo]
  | cons c l ih =>
    have := ih (k + 1)
    simp only [usedGo, List.length_append, List.length_cons]
    split <;> simp <;> omega

/-- Each used symbol is an index of the list at which there is a count above 0. -/
theorem usedGo_mem {k : Nat} {l : List Int} {s : Int} (h : s ∈ usedGo k l) : ∃ j : Nat, s = ((k + j : Nat) : Int) ∧ ∃ c, l[j]? = some c ∧ 0 < c := by
  induction l generalizing k with
  | nil => cases h
  | cons c l ih =>
    simp only [usedGo, List.mem_append] at h
    rcases h with h | h
    · split at h
      · rename_i hc
        simp only [List.mem_singleton] at h
        exact ⟨0, by simpa using h, c, by simp, hc⟩
      · cases h
    · obtain ⟨j, hj, c', hc', h0⟩ := ih h
      exact ⟨j + 1, by rw [hj]; congr 1; omega, c', by simpa using hc', h0⟩

/-- The cost, summed over the used symbols. -/
def costU (T : Int) (l : List Int) : List Int → Int
  | [] => 0
  | s :: r => l.getD s.toNat 0 * (lg T - lg (l.getD s.toNat 0)) + costU T l r

theorem costU_append (T : Int) (l a b : List Int) : costU T l (a ++ b) = costU T l a + costU T l b := by
  induction a with
  | nil => simp [costU]
  | cons c a ih => simp only [List.cons_append, costU, ih]; omega

theorem costU_used_go (T : Int) (l pre : List Int) : ∀ r, l = pre ++ r → costU T l (usedGo pre.length r) = costGo T r := by
  intro r
  induction r generalizing pre with
  | nil => intro _; simp [usedGo, costU, costGo]
  | cons c r ih =>
    intro hl
    have hc : l.getD pre.length 0 = c := by
      rw [hl]
      simp [List.getD_eq_getElem?_getD]
    have := ih (pre ++ [c]) (by simp [hl])
    simp only [List.length_append, List.length_cons, List.length_nil, Nat.zero_add] at this
    simp only [usedGo, costU_append, this, costGo]
    split
    · simp only [costU, Int.toNat_natCast, hc]
      omega
    · simp only [costU]

theorem costU_used (l : List Int) : costU l.sum l (usedGo 0 l) = costS l := costU_used_go _ l [] l rfl

/-! ### The histogram of bytes -/
def bump (h : List Int) (c : UInt8) : List Int := h.set c.toNat (min 2147483648 (h.getD c.toNat 0 + 1))
def bumps (h : List Int) (bs : List UInt8) : List Int := bs.foldl bump h
def zeros : List Int := List.replicate 256 0
def histS (bs : List UInt8) : List Int := bumps zeros bs

theorem bump_length (h : List Int) (c : UInt8) : (bump h c).length = h.length := by simp [bump]
theorem bumps_length (h : List Int) (bs : List UInt8) : (bumps h bs).length = h.length := by
  induction bs generalizing h with
  | nil => rfl
  | cons c bs ih => rw [bumps, List.foldl_cons]; exact (ih _).trans (bump_length h c)
theorem zeros_length : zeros.length = 256 := by unfold zeros; rw [List.length_replicate]
theorem histS_length (bs : List UInt8) : (histS bs).length = 256 := (bumps_length _ _).trans zeros_length
theorem bumps_append (h : List Int) (a b : List UInt8) : bumps h (a ++ b) = bumps (bumps h a) b := by simp [bumps, List.foldl_append]
theorem bumps_snoc (h : List Int) (a : List UInt8) (c : UInt8) : bumps h (a ++ [c]) = bump (bumps h a) c := by simp [bumps, List.foldl_append]

theorem bump_cnt {h : List Int} (hh : ∀ c ∈ h, Cnt c) (x : UInt8) : ∀ c ∈ bump h x, Cnt c := by
  intro c hc
  rcases List.mem_or_eq_of_mem_set hc with hc | rfl
  · exact hh c hc
  · have h0 : 0 ≤ h.getD x.toNat 0 := by
      rw [List.getD_eq_getElem?_getD]
      cases he : h[x.toNat]? with
      | none => simp
      | some v => exact (hh v (List.mem_of_getElem? he)).1
    unfold Cnt
    omega

theorem bumps_cnt {h : List Int} (hh : ∀ c ∈ h, Cnt c) (bs : List UInt8) : ∀ c ∈ bumps h bs, Cnt c := by
  induction bs generalizing h with
  | nil => exact hh
  | cons x bs ih => exact ih (bump_cnt hh x)

theorem zeros_cnt : ∀ c ∈ zeros, Cnt c := by
  intro c hc
  have := List.eq_of_mem_replicate hc
  subst this
  unfold Cnt
  omega

theorem histS_cnt (bs : List UInt8) : ∀ c ∈ histS bs, Cnt c := bumps_cnt zeros_cnt bs

/-- The count of a byte, while none passes the greatest count. -/
theorem bumps_get (h : List Int) (bs : List UInt8) (s : Nat) (hs : s < h.length) (hh : ∀ (j : Nat) (c : Int), h[j]? = some c → 0 ≤ c ∧ c + bs.length ≤ 2147483648) :
    (bumps h bs).getD s 0 = h.getD s 0 + (bs.countP fun x => x.toNat = s : Nat) := by
  induction bs generalizing h with
  | nil => simp [bumps]
  | cons x bs ih =>
    have hx : (bump h x).getD s 0 = h.getD s 0 + (if x.toNat = s then 1 else 0) := by
      unfold bump
      simp only [List.getD_eq_getElem?_getD, List.getElem?_set]
      by_cases e : x.toNat = s
      · have h2 := hh s h[s] (by simp [hs])
        simp only [List.length_cons] at h2
        simp only [e, hs, if_true, Option.getD_some, List.getElem?_eq_getElem hs]
        omega
      · simp [e]
    have := ih (bump h x) (by rw [bump_length]; exact hs) (by
      intro j c hj
      unfold bump at hj
      rw [List.getElem?_set] at hj
      split at hj
      · rename_i e
        split at hj
        · rename_i hlt
          simp only [Option.some.injEq] at hj
          have h2 := hh x.toNat h[x.toNat] (by simp [hlt])
          simp only [List.length_cons] at h2
          simp only [List.getD_eq_getElem?_getD, List.getElem?_eq_getElem hlt, Option.getD_some] at hj
          omega
        · cases hj
      · have := hh j c hj
        simp only [List.length_cons] at this
        omega)
    rw [bumps, List.foldl_cons] at *
    rw [this, hx, List.countP_cons]
    split <;> rename_i e <;> simp [e] <;> omega

theorem histS_get (bs : List UInt8) (s : Nat) (hs : s < 256) (hl : bs.length ≤ 2147483648) : (histS bs).getD s 0 = (bs.countP fun x => x.toNat = s : Nat) := by
  unfold histS
  rw [bumps_get zeros bs s (by rw [zeros_length]; exact hs) (by
    intro j c hj
    have := List.eq_of_mem_replicate (List.mem_of_getElem? hj)
    subst this
    omega)]
  have : zeros.getD s 0 = 0 := by
    unfold zeros
    rw [List.getD_eq_getElem?_getD, List.getElem?_replicate, if_pos hs, Option.getD_some]
  omega

theorem histS_diff (a b : List UInt8) (hl : (a ++ b).length ≤ 2147483648) : histS b = List.zipWith (· - ·) (histS (a ++ b)) (histS a) := by
  apply List.ext_getElem
  · simp [histS_length]
  · intro s h1 h2
    have hs : s < 256 := by rwa [histS_length] at h1
    simp only [List.getElem_zipWith]
    have e1 := histS_get b s hs (by simp at hl; omega)
    have e2 := histS_get (a ++ b) s hs hl
    have e3 := histS_get a s hs (by simp at hl; omega)
    simp only [List.getD_eq_getElem?_getD] at e1 e2 e3
    rw [List.getElem?_eq_getElem (by rw [histS_length]; exact hs)] at e1 e2 e3
    simp only [Option.getD_some] at e1 e2 e3
    rw [e1, e2, e3, List.countP_append]
    omega

/-! ### A part's cost -/
def partS (bs : List UInt8) : Int := if bs = [] then 0 else costS (histS bs) + 32768

theorem partS_nonneg (bs : List UInt8) : 0 ≤ partS bs := by
  unfold partS
  split
  · omega
  · have := costS_nonneg (histS_cnt bs)
    omega

theorem costS_bound {l : List Int} (h : ∀ c ∈ l, Cnt c) (hl : l.length ≤ 256) : costS l ≤ 9007199254740992 := by
  have hs := sum_bounds h
  have := costGo_bounds hs.1 (by omega) h
  unfold costS
  omega

theorem partS_bound (bs : List UInt8) : partS bs ≤ 9007199254773760 := by
  unfold partS
  split
  · omega
  · have := costS_bound (histS_cnt bs) (by rw [histS_length]; omega)
    omega

end Go.Port
