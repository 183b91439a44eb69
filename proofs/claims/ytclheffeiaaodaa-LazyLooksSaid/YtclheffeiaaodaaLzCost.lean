/-
  Plain laws of layer 31: a lazy plan is a plan of its data; what it costs; the cheapest of several. No program in sight.
-/
import Derived.Test.YtclheffeiaaodaaLzC
import Derived.Test.YtclheffeiaaodaaVerPlain
import Derived.Test.YtclheffeiaaodaaMatchI
namespace Go.Port
open Go.RowKit
theorem lazy_ver (bs : List UInt8) (A : Nat) (W D : Int) (far : Nat) : VerOk bs A W 0 (seqs (lazyP bs A W D far)) :=
  planS_ver rfl (lazy_ok (B := bs) (A := A) (W := W) (D := D) (far := far)) (fun p s h => (lazyA_takes h).1) ((bs.length : Int) - A).toNat 0 0 (by omega) (Int.le_refl _) (Int.le_refl _)
theorem ver_in {bs : List UInt8} {A : Nat} {W : Int} {l : List Sq} (h : VerOk bs A W 0 l) (hb : bs.length ≤ 1000000) (hW : W ≤ 134217728) : ∀ s ∈ l, InSq s := by
  intro s hs
  obtain ⟨k, hk⟩ := List.mem_iff_getElem?.1 hs
  have h1 := h.drop l 0 k s hk
  have a1 := h1.p0
  have a2 := h1.lit
  have a3 := h1.len
  have a4 := h1.fin
  have a5 := h1.off
  have a6 := h1.win
  unfold InSq InI
  omega
theorem ver_pos {bs : List UInt8} {A : Nat} {W : Int} {l : List Sq} (h : VerOk bs A W 0 l) : ∀ s ∈ l, 0 ≤ s.lit ∧ 0 ≤ s.len := by
  intro s hs
  obtain ⟨k, hk⟩ := List.mem_iff_getElem?.1 hs
  have h1 := h.drop l 0 k s hk
  have := h1.lit
  have := h1.len
  omega
theorem lazyP_in (bs : List UInt8) (A : Nat) (W D : Int) (far : Nat) (hb : bs.length ≤ 1000000) (hW : W ≤ 134217728) : ∀ s ∈ seqs (lazyP bs A W D far), InSq s := ver_in (lazy_ver bs A W D far) hb hW
/-- What a lazy plan costs. -/
def lazyC (bs : List UInt8) (A : Nat) (W D : Int) (far : Nat) : Int := (costM ((bs.length : Int) - A) (seqs (lazyP bs A W D far))).getD 0
theorem lazyC_some {bs : List UInt8} {A : Nat} {W D : Int} {far : Nat} (hA : A ≤ bs.length) (hW : W ≤ 134217728) : costM ((bs.length : Int) - A) (seqs (lazyP bs A W D far)) = some (lazyC bs A W D far) := by
  obtain ⟨r, h1, _⟩ := planS_cost (lazy_ok (B := bs) (A := A) (W := W) (D := D) (far := far)) (lazy_in (B := bs) (A := A) (W := W) (D := D) (far := far)) hW ((bs.length : Int) - A - 0).toNat 0 0 (8 * ((bs.length : Int) - A)) (by omega) (Int.le_refl _) (by omega) lazy_goes
  have h2 : costM ((bs.length : Int) - A) (seqs (lazyP bs A W D far)) = some r := by
    unfold costM
    rw [if_neg (by omega)]
    rw [Int.sub_zero] at h1
    exact h1
  unfold lazyC
  rw [h2]
  rfl
/-- The costs with every lookahead up to one. -/
def lazyCs (bs : List UInt8) (A : Nat) (W D : Int) (n : Nat) : List Int := (List.range n).map (lazyC bs A W D)
theorem lazyCs_length (bs : List UInt8) (A : Nat) (W D : Int) (n : Nat) : (lazyCs bs A W D n).length = n := by simp [lazyCs]
theorem lazyCs_succ (bs : List UInt8) (A : Nat) (W D : Int) (n : Nat) : lazyCs bs A W D (n + 1) = lazyCs bs A W D n ++ [lazyC bs A W D n] := by
  unfold lazyCs
  rw [List.range_succ, List.map_append]
  rfl
theorem lazyCs_get {bs : List UInt8} {A : Nat} {W D : Int} {n k : Nat} (h : k < n) : (lazyCs bs A W D n)[k]? = some (lazyC bs A W D k) := by
  unfold lazyCs
  rw [List.getElem?_map, List.getElem?_range h]
  rfl
/-- The first of the first k that none of them is less than. -/
def leastGo (f : Nat → Int) : Nat → Nat
  | 0 => 0
  | k + 1 => if f k < f (leastGo f k) then k else leastGo f k
theorem leastGo_lt (f : Nat → Int) (k : Nat) : leastGo f (k + 1) < k + 1 := by
  induction k with
  | zero => unfold leastGo; split <;> simp [leastGo]
  | succ k ih =>
    unfold leastGo
    split
    · omega
    · omega
theorem leastGo_le (f : Nat → Int) (k : Nat) : ∀ j, j < k → f (leastGo f k) ≤ f j := by
  induction k with
  | zero => intro j h; omega
  | succ k ih =>
    intro j hj
    unfold leastGo
    split
    · rename_i h
      by_cases e : j = k
      · subst e; exact Int.le_refl _
      · have := ih j (by omega)
        omega
    · rename_i h
      by_cases e : j = k
      · subst e; omega
      · exact ih j (by omega)
theorem leastGo_one (f : Nat → Int) : leastGo f 1 = 0 := by
  unfold leastGo
  split
  · rfl
  · rfl
/-- The lookahead whose plan is cheapest. -/
def lazyB (bs : List UInt8) (A : Nat) (W D : Int) (far : Nat) : Nat := leastGo (lazyC bs A W D) (far + 1)
end Go.Port
