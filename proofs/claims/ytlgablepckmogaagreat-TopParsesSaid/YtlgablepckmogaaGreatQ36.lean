/-
  Plain laws of layer 31: what lazy parsing does at a position. No program in sight.
  Finders and greedy plans, for every seat that makes finders: what their makers hand back, the plan from where its head ends.
-/
import Derived.Test.YtlgablepckmogaaGreatQ02
import Derived.Test.YtlgablepckmogaaGreatQ12
import Derived.Test.YtlgablepckmogaaGreatQ11
import Derived.Test.YtlgablepckmogaaGreatQ07
import Derived.Test.YtlgablepckmogaaGreatQ03
import Derived.Test.YtlgablepckmogaaGreatQ05
import Derived.Test.YtlgablepckmogaaGreatQ09
import Derived.Test.YtlgablepckmogaaGreatQ08
import Derived.Deep.RegionHeld3
namespace Go.Port
open Go.RowKit
/-- The first of the next f positions behind p, from p + k on, whose match is longer than n. -/
def longerGo (find : Int → Option Sq) (p n : Int) : Nat → Int → Option Int
  | 0, _ => none
  | f + 1, k => match find (p + k) with
    | some s => if n < s.len then some (p + k) else longerGo find p n f (k + 1)
    | none => longerGo find p n f (k + 1)
def longerS (find : Int → Option Sq) (p n : Int) (far : Nat) : Option Int := longerGo find p n far 1
/-- What lazy parsing does. -/
def lazyA (find : Int → Option Sq) (far : Nat) : Int → Mv := fun p => match find p with
  | some s => match longerS find p s.len far with
    | some q => .go q
    | none => .take s
  | none => .go (p + 1)
theorem longerGo_some {find : Int → Option Sq} {p n : Int} : ∀ (f : Nat) (k : Int) {q : Int}, longerGo find p n f k = some q → p + k ≤ q ∧ q < p + k + f ∧ ∃ s, find q = some s ∧ n < s.len := by
  intro f
  induction f with
  | zero => intro k q h; cases h
  | succ f ih =>
    intro k q h
    unfold longerGo at h
    cases hf : find (p + k) with
    | none =>
      rw [hf] at h
      obtain ⟨h1, h2, h3⟩ := ih (k + 1) h
      exact ⟨by omega, by omega, h3⟩
    | some s =>
      rw [hf] at h
      simp only at h
      split at h
      · rename_i hn
        simp only [Option.some.injEq] at h
        subst h
        exact ⟨Int.le_refl _, by omega, s, hf, hn⟩
      · obtain ⟨h1, h2, h3⟩ := ih (k + 1) h
        exact ⟨by omega, by omega, h3⟩
theorem longerGo_step {find : Int → Option Sq} {p n : Int} {f : Nat} {k : Int} (h : ∀ s, find (p + k) = some s → ¬ n < s.len) : longerGo find p n (f + 1) k = longerGo find p n f (k + 1) := by
  conv => lhs; unfold longerGo
  cases hf : find (p + k) with
  | none => rfl
  | some s => simp only; rw [if_neg (h s hf)]
theorem longerGo_hit {find : Int → Option Sq} {p n : Int} {f : Nat} {k : Int} {s : Sq} (h : find (p + k) = some s) (hn : n < s.len) : longerGo find p n (f + 1) k = some (p + k) := by
  unfold longerGo
  rw [h]
  simp only
  rw [if_pos hn]
theorem lazyA_none {find : Int → Option Sq} {far : Nat} {p : Int} (h : find p = none) : lazyA find far p = .go (p + 1) := by unfold lazyA; rw [h]
theorem lazyA_go {find : Int → Option Sq} {far : Nat} {p q : Int} {s : Sq} (h : find p = some s) (hl : longerS find p s.len far = some q) : lazyA find far p = .go q := by
  unfold lazyA; rw [h]; simp only; rw [hl]
theorem lazyA_take {find : Int → Option Sq} {far : Nat} {p : Int} {s : Sq} (h : find p = some s) (hl : longerS find p s.len far = none) : lazyA find far p = .take s := by
  unfold lazyA; rw [h]; simp only; rw [hl]
theorem lazyA_takes {find : Int → Option Sq} {far : Nat} {p : Int} {s : Sq} (h : lazyA find far p = .take s) : find p = some s ∧ longerS find p s.len far = none := by
  unfold lazyA at h
  cases hf : find p with
  | none => rw [hf] at h; simp at h
  | some t =>
    rw [hf] at h
    simp only at h
    cases hl : longerS find p t.len far with
    | some q => rw [hl] at h; simp at h
    | none => rw [hl] at h; simp only [Mv.take.injEq] at h; subst h; exact ⟨rfl, hl⟩
theorem lazyA_goes {find : Int → Option Sq} {far : Nat} {p n : Int} (h : lazyA find far p = .go n) : (find p = none ∧ n = p + 1) ∨ (p < n ∧ n ≤ p + far ∧ ∃ s t, find p = some s ∧ find n = some t ∧ s.len < t.len) := by
  unfold lazyA at h
  cases hf : find p with
  | none => rw [hf] at h; simp only [Mv.go.injEq] at h; exact .inl ⟨rfl, h.symm⟩
  | some t =>
    rw [hf] at h
    simp only at h
    cases hl : longerS find p t.len far with
    | none => rw [hl] at h; simp at h
    | some q =>
      rw [hl] at h
      simp only [Mv.go.injEq] at h
      subst h
      obtain ⟨h1, h2, s, h3, h4⟩ := longerGo_some _ _ hl
      exact .inr ⟨by omega, by omega, t, s, rfl, h3, h4⟩
theorem lazyA_mv {find : Int → Option Sq} {far : Nat} (hf : ∀ p s, find p = some s → 1 ≤ s.len) : MvOk (lazyA find far) := by
  intro p
  refine ⟨fun n h => ?_, fun s h => hf p s (lazyA_takes h).1⟩
  rcases lazyA_goes h with ⟨_, rfl⟩ | ⟨h1, _⟩
  · omega
  · exact h1
theorem lazy_ok {B : List UInt8} {A : Nat} {W D : Int} {far : Nat} : MvOk (lazyA (findS B A W D) far) := lazyA_mv fun p s h => by
  have := findS_form h
  omega
theorem lazy_in {B : List UInt8} {A : Nat} {W D : Int} {far : Nat} : ActIn ((B.length : Int) - A) W (lazyA (findS B A W D) far) := by
  intro p s h
  have := findS_form (lazyA_takes h).1
  exact ⟨this.1, this.2.1, this.2.2.1, this.2.2.2.2.2.1, this.2.2.2.2.1, this.2.2.2.1⟩
theorem lazy_goes {B : List UInt8} {A : Nat} {W D : Int} {far : Nat} : ∀ q n, lazyA (findS B A W D) far q = .go n → q < (B.length : Int) - A → n ≤ (B.length : Int) - A := by
  intro q n h hq
  rcases lazyA_goes h with ⟨_, rfl⟩ | ⟨_, _, s, t, _, h3, _⟩
  · omega
  · have := findS_form h3
    omega
/-- Without looking ahead a lazy plan is a greedy one. -/
theorem lazy_zero {find : Int → Option Sq} (hf : ∀ p s, find p = some s → 3 ≤ s.len) : lazyA find 0 = greedyA find 3 := by
  funext p
  unfold lazyA greedyA
  cases h : find p with
  | none => rfl
  | some s =>
    have := hf p s h
    simp only
    rw [if_neg (by omega)]
    rfl
end Go.Port
namespace Go.Port
open Go.RowKit
end Go.Port
namespace Go.Port
open Go.RowKit
theorem fromE_zero {bs : List UInt8} {A : Nat} {p least : Int} (h1 : 3 ≤ least) (h2 : 0 ≤ p) (h3 : p ≤ (bs.length : Int) - A) : fromE bs A p least = 0 := by
  unfold fromE
  rw [if_neg (by omega), if_neg (by omega)]
theorem fromL_ok {bs : List UInt8} {A : Nat} {W D p least : Int} (h1 : 3 ≤ least) (h2 : 0 ≤ p) (h3 : p ≤ (bs.length : Int) - A) : fromL bs A W D p least = planS (greedyA (findS bs A W D) least) ((bs.length : Int) - A) p p := by
  unfold fromL
  rw [if_pos (fromE_zero h1 h2 h3)]
  rfl
end Go.Port
namespace Go.Proofs.YtlgablepckmogaaGreat
open Go.RowKit Go.Port
end Go.Proofs.YtlgablepckmogaaGreat
