/-
  Plain laws of layers 30, 31, 33: plans made of matches found are plans of their data. No program in sight.
-/
import Derived.Test.YtnmicfheekpnfaaPlanAll
namespace Go.Port
open Go.RowKit
/-- A sequence is a plan's at its place: within the data, the window, what lies behind; its bytes are those it names. -/
structure SeqOk (bs : List UInt8) (A : Nat) (W p : Int) (s : Sq) : Prop where
  p0 : 0 ≤ p
  lit : 0 ≤ s.lit
  len : 3 ≤ s.len
  fin : p + s.lit + s.len ≤ (bs.length : Int) - A
  off : 1 ≤ s.off
  win : s.off ≤ W
  far : s.off ≤ A + (p + s.lit)
  same : ∀ k : Nat, (k : Int) < s.len → bs[((A : Int) + (p + s.lit)).toNat + k]? = bs[((A : Int) + (p + s.lit) - s.off).toNat + k]?
/-- The plan l is one from p on. -/
def VerOk (bs : List UInt8) (A : Nat) (W : Int) : Int → List Sq → Prop
  | _, [] => True
  | p, s :: r => SeqOk bs A W p s ∧ VerOk bs A W (p + s.lit + s.len) r
theorem VerOk.drop {bs : List UInt8} {A : Nat} {W : Int} : ∀ (l : List Sq) (p : Int) (k : Nat) (s : Sq), VerOk bs A W p l → l[k]? = some s → SeqOk bs A W (endOf p (l.take k)) s := by
  intro l
  induction l with
  | nil => intro p k s _ h; simp at h
  | cons x r ih =>
    intro p k s h hk
    cases k with
    | zero => simp only [List.getElem?_cons_zero, Option.some.injEq] at hk; subst hk; exact h.1
    | succ k =>
      simp only [List.getElem?_cons_succ] at hk
      exact ih _ k s h.2 hk
theorem planS_ver {bs : List UInt8} {A : Nat} {W D size : Int} {act : Int → Mv} (hs : size = (bs.length : Int) - A) (hm : MvOk act) (ha : ∀ p s, act p = .take s → findS bs A W D p = some s) : ∀ (k : Nat) (p frm : Int), size - p ≤ k → 0 ≤ frm → frm ≤ p →
    VerOk bs A W frm (seqsL (planS act size p frm)) := by
  intro k
  induction k with
  | zero => intro p frm h _ _; rw [planS_end act frm (by omega)]; exact trivial
  | succ k ih =>
    intro p frm h h0 hf
    by_cases hp : p < size
    · cases e : act p with
      | go n =>
        have := (hm p).1 n e
        rw [planS_go hm frm hp e]
        exact ih n frm (by omega) h0 (by omega)
      | take s =>
        rw [planS_take hm frm hp e]
        obtain ⟨P, N, d, rfl, rfl, h1, h2, h3, h4, h5, h6⟩ := findS_is (ha p s e)
        refine ⟨⟨h0, ?_, ?_, ?_, ?_, ?_, ?_, ?_⟩, ?_⟩
        · simp only; omega
        · simp only; omega
        · simp only; omega
        · simp only; omega
        · simp only; omega
        · simp only; omega
        · intro j hj
          simp only at hj ⊢
          have := h6 j (by omega)
          rw [show A + P + j - d = A + P - d + j by omega] at this
          rw [show ((A : Int) + (frm + ((P : Int) - frm))).toNat = A + P by omega, show ((A : Int) + (frm + ((P : Int) - frm)) - (d : Int)).toNat = A + P - d by omega]
          exact this
        · have he : frm + ((P : Int) - frm) + (N : Int) = (P : Int) + N := by omega
          simp only
          rw [he]
          exact ih ((P : Int) + N) ((P : Int) + N) (by omega) (by omega) (Int.le_refl _)
    · rw [planS_end act frm (by omega)]
      exact trivial
end Go.Port
