/-
  Plain laws of layer 29: the match found is the best of the candidates; more candidates find no shorter one; what the candidates are. No program in sight.
-/
import Derived.Test.YtnmicfheekpnfaaPlanAll
namespace Go.Port
open Go.RowKit

theorem firstGo_best (l : List Sq) : ∀ (o : Option Sq) (s : Sq), firstGo aheadB o l = some s → ∀ y, (o = some y ∨ y ∈ l) → y.len ≤ s.len ∧ (y.len = s.len → s.off ≤ y.off) := by
  induction l with
  | nil =>
    intro o s h y hy
    have h' : o = some s := by
      cases o with
      | none => exact h
      | some _ => exact h
    subst h'
    rcases hy with hy | hy
    · cases hy; exact ⟨Int.le_refl _, fun _ => Int.le_refl _⟩
    · cases hy
  | cons x r ih =>
    intro o s h y hy
    cases o with
    | none =>
      have h' : firstGo aheadB (some x) r = some s := h
      rcases hy with hy | hy
      · cases hy
      · rcases List.mem_cons.1 hy with rfl | hy
        · exact ih (some y) s h' y (.inl rfl)
        · exact ih (some x) s h' y (.inr hy)
    | some z =>
      have h' : firstGo aheadB (if aheadB x z then some x else some z) r = some s := h
      by_cases ha : aheadB x z = true
      · rw [if_pos ha] at h'
        have hx := ih (some x) s h' x (.inl rfl)
        rcases hy with hy | hy
        · cases hy
          unfold aheadB at ha
          simp only [Bool.or_eq_true, Bool.and_eq_true, decide_eq_true_eq] at ha
          omega
        · rcases List.mem_cons.1 hy with rfl | hy
          · exact hx
          · exact ih (some x) s h' y (.inr hy)
      · rw [if_neg ha] at h'
        have hz := ih (some z) s h' z (.inl rfl)
        rcases hy with hy | hy
        · cases hy; exact hz
        · rcases List.mem_cons.1 hy with rfl | hy
          · unfold aheadB at ha
            simp only [Bool.or_eq_true, Bool.and_eq_true, decide_eq_true_eq] at ha
            omega
          · exact ih (some z) s h' y (.inr hy)
theorem firstGo_none (f : Sq → Sq → Bool) (l : List Sq) : ∀ o, firstGo f o l = none → o = none ∧ l = [] := by
  induction l with
  | nil =>
    intro o h
    cases o with
    | none => exact ⟨rfl, rfl⟩
    | some y => cases h
  | cons x r ih =>
    intro o h
    cases o with
    | none => have := (ih (some x) h).1; cases this
    | some y =>
      have h' : firstGo f (if f x y then some x else some y) r = none := h
      have := (ih _ h').1
      split at this <;> cases this
theorem matchesS_of {b : List UInt8} {pos most x : Int} {frm : List Int} (hx : x ∈ frm) (he : earlierB b.length pos x = true) : (⟨0, (lenS b pos x most : Nat), pos - x⟩ : Sq) ∈ matchesS b pos most frm := by
  induction frm with
  | nil => cases hx
  | cons y r ih =>
    rw [show y :: r = [y] ++ r from rfl, matchesS_append]
    rcases List.mem_cons.1 hx with rfl | hx
    · refine List.mem_append_left _ ?_
      unfold matchesS
      rw [if_pos he]
      exact List.mem_cons_self
    · exact List.mem_append_right _ (ih hx)
/-- A candidate with a match of three bytes or more: the best is no shorter, and no farther where it is as long. -/
theorem bestS_best {b : List UInt8} {pos most x : Int} {frm : List Int} (hx : x ∈ frm) (he : earlierB b.length pos x = true) (h3 : 3 ≤ lenS b pos x most) :
    ∃ s, bestS b pos most frm = some s ∧ (lenS b pos x most : Int) ≤ s.len ∧ ((lenS b pos x most : Int) = s.len → s.off ≤ pos - x) := by
  have hm := matchesS_of (most := most) hx he
  cases ho : firstGo aheadB none (matchesS b pos most frm) with
  | none => have := (firstGo_none _ _ _ ho).2; rw [this] at hm; cases hm
  | some s =>
    have hb := firstGo_best _ _ s ho _ (.inr hm)
    simp only at hb
    refine ⟨s, ?_, hb⟩
    unfold bestS
    rw [ho]
    simp only
    rw [if_neg (by omega)]
theorem getD_append_add (M B : List UInt8) (k : Nat) : (M ++ B).getD (M.length + k) 0 = B.getD k 0 := by
  rw [List.getD_eq_getElem?_getD, List.getD_eq_getElem?_getD, List.getElem?_append_right (by omega), Nat.add_sub_cancel_left]
theorem key3_shift (M B : List UInt8) (p : Nat) : key3 (M ++ B) (M.length + p) = key3 B p := by
  unfold key3
  rw [getD_append_add, Nat.add_assoc, getD_append_add, Nat.add_assoc, getD_append_add]
theorem hitsGo_shift (M B : List UInt8) (K : Key3) (n : Nat) : hitsGo (M ++ B) K (M.length + n) = (hitsGo B K n).map (M.length + ·) ++ hitsGo (M ++ B) K M.length := by
  induction n with
  | zero => rfl
  | succ n ih =>
    generalize hitsGo (M ++ B) K M.length = R at ih ⊢
    show hitsGo (M ++ B) K (M.length + n + 1) = _
    unfold hitsGo
    rw [key3_shift]
    split
    · rw [List.map_cons, List.cons_append, ← ih]
    · exact ih
theorem candGo_shift (own m : Nat) (W : Int) (l r : List Nat) : ∀ (D : Int) (p : Nat), p ∈ candGo own W D l → m + p ∈ candGo (m + own) W D (l.map (m + ·) ++ r) := by
  induction l with
  | nil => intro D p h; simp [candGo] at h
  | cons q l ih =>
    intro D p h
    unfold candGo at h
    split at h
    · rename_i hc
      rw [List.map_cons, List.cons_append]
      unfold candGo
      rw [if_pos (by omega)]
      rcases List.mem_cons.1 h with rfl | h
      · exact List.mem_cons_self
      · exact List.mem_cons_of_mem _ (ih _ _ h)
    · simp at h
theorem candGo_wider (own : Nat) (l : List Nat) : ∀ (W W' D D' : Int) (p : Nat), W ≤ W' → D ≤ D' → p ∈ candGo own W D l → p ∈ candGo own W' D' l := by
  induction l with
  | nil => intro W W' D D' p _ _ h; simp [candGo] at h
  | cons q l ih =>
    intro W W' D D' p h1 h2 h
    unfold candGo at h ⊢
    split at h
    · rename_i hc
      rw [if_pos (by omega)]
      rcases List.mem_cons.1 h with rfl | h
      · exact List.mem_cons_self
      · exact List.mem_cons_of_mem _ (ih W W' _ _ p h1 (by omega) h)
    · simp at h
theorem candS_wider {B : List UInt8} {own : Nat} {W W' D D' : Int} {p : Nat} (h1 : W ≤ W') (h2 : D ≤ D') (h : p ∈ candS B own W D) : p ∈ candS B own W' D' := by
  unfold candS at h ⊢
  split at h
  · rename_i h3
    rw [if_pos h3]
    exact candGo_wider own _ W W' D D' p h1 h2 h
  · simp at h
theorem candS_shift {M B : List UInt8} {own : Nat} {W D : Int} {p : Nat} (h : p ∈ candS B own W D) : M.length + p ∈ candS (M ++ B) (M.length + own) W D := by
  unfold candS at h ⊢
  split at h
  · rename_i h3
    rw [if_pos (by rw [List.length_append]; omega)]
    unfold hits at h ⊢
    rw [key3_shift, hitsGo_shift]
    exact candGo_shift own M.length W _ _ D p h
  · simp at h
theorem cpl_far (f g : Nat) (a c : List UInt8) (hf : a.length ≤ f) (hg : a.length ≤ g) : cpl f a c = cpl g a c := by
  have h1 := cpl_min f a.length a c (Nat.le_refl _)
  have h2 := cpl_min g a.length a c (Nat.le_refl _)
  have h3 := (cpl_le a.length a c).1
  omega
theorem lenS_at {B : List UInt8} {P q : Nat} (hq : q < P) (hP : P ≤ B.length) : lenS B (P : Int) (q : Int) (B.length : Int) = cpl B.length (B.drop P) (B.drop q) := by
  unfold lenS
  rw [if_pos (by unfold earlierB; simp; omega)]
  rfl
theorem earlierB_at {B : List UInt8} {P q : Nat} (hq : q < P) (hP : P ≤ B.length) : earlierB B.length (P : Int) (q : Int) = true := by
  unfold earlierB
  simp
  omega
theorem getD_drop (B : List UInt8) (P k : Nat) : (B.drop P)[k]? = B[P + k]? := List.getElem?_drop
theorem key3_three {B : List UInt8} {P q : Nat} (hk : key3 B q = key3 B P) (hq : q < P) (hP : P + 3 ≤ B.length) : 3 ≤ cpl B.length (B.drop P) (B.drop q) := by
  refine cpl_ge _ _ _ 3 (by omega) (by rw [List.length_drop]; omega) (by rw [List.length_drop]; omega) (fun j hj => ?_)
  rw [getD_drop, getD_drop]
  unfold key3 at hk
  simp only [Prod.mk.injEq] at hk
  obtain ⟨k0, k1, k2⟩ := hk
  have hs : ∀ n, n < B.length → B[n]? = some (B.getD n 0) := fun n hn => by rw [List.getD_eq_getElem?_getD, List.getElem?_eq_getElem hn]; rfl
  rw [hs _ (by omega), hs _ (by omega)]
  match j, hj with
  | 0, _ => rw [Nat.add_zero, Nat.add_zero, k0]
  | 1, _ => rw [k1]
  | 2, _ => rw [k2]
/-- The match found, seen from each candidate. -/
theorem findS_best {B : List UInt8} {A : Nat} {W D : Int} {P q : Nat} (hP : (P : Int) ≤ (B.length : Int) - A) (hq : q ∈ candS B (A + P) W D) :
    ∃ s, findS B A W D (P : Int) = some s ∧ (cpl B.length (B.drop (A + P)) (B.drop q) : Int) ≤ s.len ∧ ((cpl B.length (B.drop (A + P)) (B.drop q) : Int) = s.len → s.off ≤ (A + P : Nat) - (q : Int)) ∧ 3 ≤ cpl B.length (B.drop (A + P)) (B.drop q) := by
  obtain ⟨c1, c2, c3, c4⟩ := candS_mem hq
  have h3 := key3_three c2 c1 (by omega)
  have hl := lenS_at (B := B) c1 (by omega : A + P ≤ B.length)
  have hx : (q : Int) ∈ (candS B (A + P) W D).map fun (p : Nat) => (p : Int) := List.mem_map.2 ⟨q, hq, rfl⟩
  obtain ⟨s, s1, s2, s3⟩ := bestS_best (b := B) (most := (B.length : Int)) hx (earlierB_at c1 (by omega)) (by rw [hl]; exact h3)
  rw [hl] at s2 s3
  refine ⟨s, ?_, s2, s3, h3⟩
  unfold findS
  rw [if_pos ⟨by omega, hP⟩, Int.toNat_natCast]
  exact s1
/-- The match found is that of a candidate. -/
theorem findS_of {B : List UInt8} {A : Nat} {W D p : Int} {s : Sq} (h : findS B A W D p = some s) : ∃ P q : Nat, p = (P : Int) ∧ (P : Int) ≤ (B.length : Int) - A ∧ q ∈ candS B (A + P) W D ∧ s = ⟨0, (cpl B.length (B.drop (A + P)) (B.drop q) : Nat), ((A + P - q : Nat) : Int)⟩ := by
  unfold findS at h
  split at h
  · rename_i hp
    obtain ⟨P, rfl⟩ : ∃ P : Nat, p = (P : Int) := ⟨p.toNat, by omega⟩
    rw [Int.toNat_natCast] at h
    obtain ⟨hm, _⟩ := bestS_mem h
    obtain ⟨x, hx, he, rfl⟩ := matchesS_mem hm
    obtain ⟨q, hq, rfl⟩ := List.mem_map.1 hx
    obtain ⟨c1, c2, c3, c4⟩ := candS_mem hq
    rw [lenS_at c1 (by omega)]
    refine ⟨P, q, rfl, hp.2, hq, ?_⟩
    congr 1
    omega
  · cases h
theorem findS_len0 {B : List UInt8} {A : Nat} {W D p : Int} : 0 ≤ ((findS B A W D p).getD Sq.zero).len := by
  cases h : findS B A W D p with
  | none => exact Int.le_refl _
  | some s => have := findS_form h; simp only [Option.getD]; omega
/-- A larger window or depth finds no shorter match. -/
theorem findS_wider {B : List UInt8} {A : Nat} {W W' D D' p : Int} (h1 : W ≤ W') (h2 : D ≤ D') : ((findS B A W D p).getD Sq.zero).len ≤ ((findS B A W' D' p).getD Sq.zero).len := by
  cases h : findS B A W D p with
  | none => exact findS_len0
  | some s =>
    obtain ⟨P, q, rfl, hP, hq, rfl⟩ := findS_of h
    obtain ⟨t, t1, t2, _⟩ := findS_best hP (candS_wider h1 h2 hq)
    rw [t1]
    exact t2
/-- More history finds no shorter match. -/
theorem findS_more {M B : List UInt8} {A : Nat} {W D p : Int} : ((findS B A W D p).getD Sq.zero).len ≤ ((findS (M ++ B) (M.length + A) W D p).getD Sq.zero).len := by
  cases h : findS B A W D p with
  | none => exact findS_len0
  | some s =>
    obtain ⟨P, q, rfl, hP, hq, rfl⟩ := findS_of h
    have hq2 := candS_shift (M := M) hq
    rw [← Nat.add_assoc] at hq2
    obtain ⟨t, t1, t2, _⟩ := findS_best (A := M.length + A) (by rw [List.length_append]; omega) hq2
    rw [t1]
    refine Int.le_trans ?_ t2
    have e1 : (M ++ B).drop (M.length + A + P) = B.drop (A + P) := by rw [Nat.add_assoc, List.drop_length_add_append]
    have e2 : (M ++ B).drop (M.length + q) = B.drop q := by rw [List.drop_length_add_append]
    rw [e1, e2]
    have := cpl_far (M ++ B).length B.length (B.drop (A + P)) (B.drop q) (by rw [List.length_drop, List.length_append]; omega) (by rw [List.length_drop]; omega)
    rw [this]
    exact Int.le_refl _
theorem findS_none {B : List UInt8} {A : Nat} {W D p : Int} (h : findS B A W D p = none) : placesS B A W D p = [] := by
  unfold placesS
  split
  · rename_i hp
    obtain ⟨P, rfl⟩ : ∃ P : Nat, p = (P : Int) := ⟨p.toNat, by omega⟩
    rw [Int.toNat_natCast]
    cases hc : candS B (A + P) W D with
    | nil => rfl
    | cons q r =>
      obtain ⟨s, s1, _⟩ := findS_best (B := B) (W := W) (D := D) (A := A) (P := P) hp.2 (q := q) (by rw [hc]; exact List.mem_cons_self)
      rw [h] at s1
      cases s1
  · rfl
theorem hitsGo_sorted (B : List UInt8) (K : Key3) (n : Nat) : (hitsGo B K n).Pairwise (· > ·) := by
  induction n with
  | zero => exact List.Pairwise.nil
  | succ n ih =>
    unfold hitsGo
    split
    · exact List.Pairwise.cons (fun q hq => (hitsGo_lt B K n q hq).1) ih
    · exact ih
theorem candGo_sublist (own : Nat) (W : Int) (l : List Nat) : ∀ D, (candGo own W D l).Sublist l := by
  induction l with
  | nil => intro D; simp [candGo]
  | cons q l ih =>
    intro D
    unfold candGo
    split
    · exact (ih _).cons_cons q
    · exact List.nil_sublist _
theorem candS_sorted (B : List UInt8) (own : Nat) (W D : Int) : (candS B own W D).Pairwise (· > ·) := by
  unfold candS
  split
  · exact (hitsGo_sorted B _ own).sublist (candGo_sublist own W _ D)
  · exact List.Pairwise.nil
end Go.Port
