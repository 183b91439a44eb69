/-
  Cuts of slices and a copy into an array, for the stage's theorem of layer 32.
-/
import Derived.Test.YtiagbejfghincaaGreatZ43
import Derived.Test.YtiagbejfghincaaGreatZ44
import Derived.Test.YtiagbejfghincaaGreatZ20
import Derived.Laws.CopyRow
import Derived.Laws.CopyOwn
import Derived.Deep.Slices
import Derived.ChangeSame
namespace Go.Port
open Go.RowKit
theorem run_cut {P : Program} {t e : TypeId} {i : TypeInfo} (ht : P.underlying t = some (.slice e)) (hi : P.info? e = some i) (ad : Option Addr) (n c : Nat) (low high : Option Value) (l h : Nat)
    (hb : ∀ W, (Instr.sliceBounds true n c low high none).run P W = .ok (l, h, c) W) (W : World) :
    (Instr.slice t (.slice ad n c) low high none).run P W = .ok (.slice (if c = l then ad else ad.map (·.add (l * i.size))) (h - l) (c - l)) W := by
  simp [Instr.slice, run_underlying ht, hb, sizeOf, typeInfo, hi]
theorem run_cutAt {P : Program} {t e : TypeId} {i : TypeInfo} (ht : P.underlying t = some (.slice e)) (hi : P.info? e = some i) (ad : Option Addr) (n c : Nat) (low high : Option Value) (l h : Nat)
    (hb : ∀ W, (Instr.sliceBounds true n c low high none).run P W = .ok (l, h, c) W) (W : World) :
    (Instr.sliceAt t (.slice ad n c) low high none).run P W = .ok (.slice (if c = l then ad else ad.map (·.add (l * i.size))) (h - l) (c - l)) W := by
  rw [← run_cut ht hi ad n c low high l h hb W]
  simp [Instr.sliceAt, run_underlying ht]
theorem bounds_lo {P : Program} (n c l : Nat) (hl : l ≤ n) (W : World) : (Instr.sliceBounds true n c (some (.int .i64 (l : Int))) none none).run P W = .ok (l, n, c) W := by
  simp [Instr.sliceBounds, Instr.sliceBound, asIntOf]
  intro h2
  omega
/-- The address of a cut. -/
def cutA (ad : Option Addr) (c l sz : Nat) : Option Addr := if c = l then ad else ad.map (·.add (l * sz))
end Go.Port
namespace Go.Proofs.YtiagbejfghincaaGreat
open Go.RowKit Go.Port
theorem cutA_cs {W : World} {ad : Option Addr} {cs : List Value} (h : Cs W ad cs) (c l sz : Nat) (hc : cs.length ≤ c * sz) (m : Nat) : Cs W (cutA ad c l sz) ((cs.drop (l * sz)).take m) := by
  intro j u hu
  rw [List.getElem?_take] at hu
  split at hu
  · rw [List.getElem?_drop] at hu
    obtain ⟨b, o, e, h1, h2⟩ := h _ _ hu
    have hj := (List.getElem?_eq_some_iff.1 hu).1
    subst e
    unfold cutA
    have hne : ¬ c = l := by rintro rfl; omega
    rw [if_neg hne]
    refine ⟨b, o + l * sz, by rw [Option.map_some, Go.WideShapes.add_plain], h1, ?_⟩
    rw [Nat.add_assoc]
    exact h2
  · cases hu
theorem info_size {P : Program} {e : TypeId} {n : Nat} (h : (P.info? e).map (·.size) = some n) : ∃ i, P.info? e = some i ∧ i.size = n := by
  cases e' : P.info? e with
  | none => rw [e'] at h; cases h
  | some i => rw [e'] at h; exact ⟨i, rfl, by simpa using h⟩
theorem cut_u8_lo (ad : Option Addr) (n c h : Nat) (hh : h ≤ n) (W : World) : (Instr.slice 22 (.slice ad n c) (some (.int .i64 (h : Int))) none none).run Tryz.prog W = .ok (.slice (cutA ad c h 1) (n - h) (c - h)) W := by
  obtain ⟨i, h1, h2⟩ := info_size (P := Tryz.prog) (e := 5) (n := 1) (by kernel_rfl)
  have := run_cut Tryz.underlying22 h1 ad n c (some (.int .i64 (h : Int))) none h n (bounds_lo n c h hh) W
  rw [h2] at this
  exact this
theorem cut_u8_loAt (ad : Option Addr) (n c h : Nat) (hh : h ≤ n) (W : World) : (Instr.sliceAt 22 (.slice ad n c) (some (.int .i64 (h : Int))) none none).run Tryz.prog W = .ok (.slice (cutA ad c h 1) (n - h) (c - h)) W := by
  obtain ⟨i, h1, h2⟩ := info_size (P := Tryz.prog) (e := 5) (n := 1) (by kernel_rfl)
  have := run_cutAt Tryz.underlying22 h1 ad n c (some (.int .i64 (h : Int))) none h n (bounds_lo n c h hh) W
  rw [h2] at this
  exact this
end Go.Proofs.YtiagbejfghincaaGreat
