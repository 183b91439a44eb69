/-
  Plain laws of layers 27 and 29: the earlier positions with the same three bytes, the candidates among them, the match found. No program in sight.
-/
import Derived.Test.YtngphgdoolcpcaaMatchPlain
namespace Go.Port

/-- The key of a position: its three bytes. -/
abbrev Key3 : Type := UInt8 × UInt8 × UInt8
def key3 (B : List UInt8) (p : Nat) : Key3 := (B.getD p 0, B.getD (p + 1) 0, B.getD (p + 2) 0)
/-- The positions below n with a key, the last one first. -/
def hitsGo (B : List UInt8) (K : Key3) : Nat → List Nat
  | 0 => []
  | n + 1 => if key3 B n = K then n :: hitsGo B K n else hitsGo B K n
def hits (B : List UInt8) (p : Nat) : List Nat := hitsGo B (key3 B p) p
/-- The last earlier position with the same key, or -1. -/
def prevI (B : List UInt8) (p : Nat) : Int := match (hits B p).head? with
  | some q => (q : Int)
  | none => -1
/-- .. for the first n positions. -/
def prevL (B : List UInt8) (n : Nat) : List Int := (List.range n).map (prevI B)

theorem prevL_length (B : List UInt8) (n : Nat) : (prevL B n).length = n := by simp [prevL]
theorem prevL_succ (B : List UInt8) (n : Nat) : prevL B (n + 1) = prevL B n ++ [prevI B n] := by
  unfold prevL
  rw [List.range_succ, List.map_append]
  rfl
theorem prevL_get {B : List UInt8} {n p : Nat} (h : p < n) : (prevL B n)[p]? = some (prevI B p) := by
  unfold prevL
  rw [List.getElem?_map, List.getElem?_range h]
  rfl
theorem hitsGo_lt (B : List UInt8) (K : Key3) (n p : Nat) (h : p ∈ hitsGo B K n) : p < n ∧ key3 B p = K := by
  induction n with
  | zero => simp [hitsGo] at h
  | succ n ih =>
    unfold hitsGo at h
    split at h
    · rename_i e
      rcases List.mem_cons.1 h with rfl | h
      · exact ⟨Nat.lt_succ_self _, e⟩
      · have := ih h
        exact ⟨by omega, this.2⟩
    · have := ih h
      exact ⟨by omega, this.2⟩
theorem hitsGo_mem {B : List UInt8} {K : Key3} {n p : Nat} (h : p < n) (hk : key3 B p = K) : p ∈ hitsGo B K n := by
  induction n with
  | zero => omega
  | succ n ih =>
    unfold hitsGo
    rcases Nat.lt_or_ge p n with h1 | h1
    · split
      · exact List.mem_cons_of_mem _ (ih h1)
      · exact ih h1
    · obtain rfl : p = n := by omega
      rw [if_pos hk]
      exact List.mem_cons_self
theorem hitsGo_cons {B : List UInt8} {K : Key3} {n p : Nat} {r : List Nat} (h : hitsGo B K n = p :: r) : p < n ∧ key3 B p = K ∧ r = hitsGo B K p := by
  induction n with
  | zero => simp [hitsGo] at h
  | succ n ih =>
    unfold hitsGo at h
    split at h
    · rename_i e
      simp only [List.cons.injEq] at h
      obtain ⟨rfl, rfl⟩ := h
      exact ⟨Nat.lt_succ_self _, e, rfl⟩
    · have := ih h
      exact ⟨by omega, this.2⟩
/-- The chain of last earlier positions. -/
theorem hits_cons {B : List UInt8} {n p : Nat} {r : List Nat} (h : hits B n = p :: r) : p < n ∧ prevI B n = (p : Int) ∧ r = hits B p := by
  obtain ⟨h1, h2, h3⟩ := hitsGo_cons h
  refine ⟨h1, ?_, ?_⟩
  · unfold prevI
    rw [h]
    rfl
  · unfold hits
    rw [h2]
    exact h3
theorem hits_nil {B : List UInt8} {n : Nat} (h : hits B n = []) : prevI B n = -1 := by
  unfold prevI
  rw [h]
  rfl
theorem hitsGo_length (B : List UInt8) (K : Key3) (n : Nat) : (hitsGo B K n).length ≤ n := by
  induction n with
  | zero => simp [hitsGo]
  | succ n ih =>
    unfold hitsGo
    split
    · simp; omega
    · omega
theorem prevI_bound (B : List UInt8) (n : Nat) : -1 ≤ prevI B n ∧ prevI B n < n := by
  unfold prevI
  cases h : (hits B n).head? with
  | none => simp; omega
  | some q =>
    have := hitsGo_lt B _ n q (List.mem_of_mem_head? h)
    simp only
    omega

/-- The candidates: the first ones of a chain, while they are near and few enough. -/
def candGo (own : Nat) (W : Int) : Int → List Nat → List Nat
  | _, [] => []
  | D, p :: r => if 0 < D ∧ ((own : Int) - (p : Int)) ≤ W then p :: candGo own W (D - 1) r else []
def candS (B : List UInt8) (own : Nat) (W D : Int) : List Nat := if own + 3 ≤ B.length then candGo own W D (hits B own) else []

theorem candGo_mem {own : Nat} {W : Int} {l : List Nat} : ∀ {D : Int} {p : Nat}, p ∈ candGo own W D l → p ∈ l ∧ (own : Int) - (p : Int) ≤ W := by
  induction l with
  | nil => intro D p h; simp [candGo] at h
  | cons q r ih =>
    intro D p h
    unfold candGo at h
    split at h
    · rename_i hc
      rcases List.mem_cons.1 h with rfl | h
      · exact ⟨List.mem_cons_self, hc.2⟩
      · have := ih h
        exact ⟨List.mem_cons_of_mem _ this.1, this.2⟩
    · simp at h
theorem candGo_length {own : Nat} {W : Int} {l : List Nat} : ∀ {D : Int}, (candGo own W D l).length ≤ l.length ∧ (0 ≤ D → ((candGo own W D l).length : Int) ≤ D) := by
  induction l with
  | nil => intro D; simp [candGo]
  | cons q r ih =>
    intro D
    unfold candGo
    split
    · rename_i hc
      have := @ih (D - 1)
      have h2 := this.2 (by omega)
      simp only [List.length_cons]
      exact ⟨by omega, fun _ => by omega⟩
    · simp only [List.length_nil, List.length_cons]
      exact ⟨by omega, fun h => by simpa using h⟩
theorem candS_mem {B : List UInt8} {own : Nat} {W D : Int} {p : Nat} (h : p ∈ candS B own W D) : p < own ∧ key3 B p = key3 B own ∧ own + 3 ≤ B.length ∧ (own : Int) - (p : Int) ≤ W := by
  unfold candS at h
  split at h
  · rename_i h3
    obtain ⟨h1, h2⟩ := candGo_mem h
    have := hitsGo_lt B _ own p h1
    exact ⟨this.1, this.2, h3, h2⟩
  · simp at h
theorem candS_length (B : List UInt8) (own : Nat) (W D : Int) : (candS B own W D).length ≤ own := by
  unfold candS
  split
  · have h1 := (@candGo_length own W (hits B own) D).1
    have h2 := hitsGo_length B (key3 B own) own
    unfold hits at *
    omega
  · simp

/-- The match found at a position of the data (A bytes of history lie ahead). -/
def findS (B : List UInt8) (A : Nat) (W D : Int) (at' : Int) : Option Sq :=
  if 0 ≤ at' ∧ at' ≤ (B.length : Int) - A then bestS B (A + at'.toNat : Nat) B.length ((candS B (A + at'.toNat) W D).map fun (p : Nat) => (p : Int)) else none
theorem findS_out {B : List UInt8} {A : Nat} {W D at' : Int} (h : ¬ (0 ≤ at' ∧ at' ≤ (B.length : Int) - A)) : findS B A W D at' = none := by
  unfold findS
  rw [if_neg h]
theorem bestS_nil (b : List UInt8) (pos most : Int) : bestS b pos most [] = none := rfl
end Go.Port
