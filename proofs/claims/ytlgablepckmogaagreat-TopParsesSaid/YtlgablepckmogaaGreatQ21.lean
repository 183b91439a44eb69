/-
  The walks of layer 22 (plan): the steps of a plan that breaks a rule.
-/
import Derived.Test.YtlgablepckmogaaGreatQ20
namespace Go.Port
open Go.RowKit
/-- The sequence lies within the greatest block, from a on. -/
def linB (s : Sq) (a : Int) : Bool := decide (0 ≤ s.lit) && decide (3 ≤ s.len) && decide (s.lit ≤ 131072 - a) && decide (s.len ≤ 131072 - (a + s.lit))
/-- Where a plan ends, if it is one. -/
def planEnd : Int → List Sq → Option Int
  | a, [] => some a
  | a, s :: r => if linB s a = true then planEnd (a + s.lit + s.len) r else none
theorem linB_in {s : Sq} {a : Int} (h : linB s a = true) : 0 ≤ s.lit ∧ 3 ≤ s.len ∧ a + s.lit + s.len ≤ 131072 := by
  unfold linB at h
  simp only [Bool.and_eq_true, decide_eq_true_eq] at h
  omega
theorem planEnd_some : ∀ (l : List Sq) (a n : Int), planEnd a l = some n → n = lend a l ∧ a ≤ n ∧ (l ≠ [] → n ≤ 131072) := by
  intro l
  induction l with
  | nil => intro a n h; simp only [planEnd, Option.some.injEq] at h; exact ⟨h.symm, by omega, fun h => absurd rfl h⟩
  | cons s r ih =>
    intro a n h
    unfold planEnd at h
    split at h
    · rename_i hb
      have h1 := linB_in hb
      obtain ⟨h2, h3, h4⟩ := ih _ _ h
      refine ⟨h2, by omega, fun _ => ?_⟩
      by_cases hr : r = []
      · subst hr
        simp only [planEnd, Option.some.injEq] at h
        omega
      · exact h4 hr
    · cases h
theorem lpl_of : ∀ (l : List Sq) (a n : Int), 0 ≤ a → planEnd a l = some n → ∀ pre s rest, l = pre ++ s :: rest → linB s (lend a pre) = true ∧ 0 ≤ lend a pre := by
  intro l
  induction l with
  | nil => intro a n _ _ pre s rest e; cases pre <;> cases e
  | cons x r ih =>
    intro a n ha h pre s rest e
    unfold planEnd at h
    split at h
    · rename_i hb
      have h1 := linB_in hb
      cases pre with
      | nil => cases e; exact ⟨hb, ha⟩
      | cons y pre =>
        cases e
        exact ih _ n (by omega) h pre s rest rfl
    · cases h
theorem LPl.of {l : List Sq} {n : Int} (h : planEnd 0 l = some n) : LPl l := fun pre s rest e => by
  obtain ⟨h1, h2⟩ := lpl_of l 0 n (Int.le_refl _) h pre s rest e
  obtain ⟨h3, h4, h5⟩ := linB_in h1
  exact ⟨h2, h3, h4, h5, Int.le_refl _⟩
end Go.Port
namespace Go.Proofs.YtlgablepckmogaaGreat
open Go.RowKit Go.Port
set_option maxRecDepth 100000 in
theorem lmatch2_any (x : LSt) (w : World) (ha : 0 ≤ x.at' ∧ x.at' ≤ 131072) (hx : 0 ≤ x.s.lit ∧ x.s.lit ≤ 131072) :
    Calls Tryz.prog 20 #[lstv x] w (RetV w (.int .i64 (x.at' + x.s.lit))) := by
  obtain ⟨⟨lit, len, off⟩, num, at', size, hav, win⟩ := x
  unfold lstv
  dsimp only at *
  have hw1 : IntKind.i64.wrap (at' + lit) = at' + lit := by rw [IntKind.wrap_i64]; omega
  clear ha hx
  go_enter Tryz.func20, Tryz.ntmps20
  go_wp2
  go_ret
  exact ⟨rfl, below_new w _⟩
/-- It panics with this chain; what lay stays. -/
def PanQ (ch : List PanicEntry) (w : World) : Exit → Act → World → Prop
  | .panic c, a, w' => c = ch ∧ a.defers = [] ∧ Below w.heap.size w w'
  | _, _, _ => False
theorem PanQ.put {ch c : List PanicEntry} {w w' : World} {a : Act} {d : Option Tmp} {v : Value} (h : PanQ ch w (.panic c) (a.put d v) w') : PanQ ch w (.panic c) a w' := by
  cases d <;> exact h
end Go.Proofs.YtlgablepckmogaaGreat
