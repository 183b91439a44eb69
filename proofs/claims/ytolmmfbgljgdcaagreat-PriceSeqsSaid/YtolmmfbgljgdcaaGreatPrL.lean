/-
  Chapter 32's laws: what an argument of four slices of integers is in memory.
-/
import Derived.Test.YtolmmfbgljgdcaaGreatPrS
import Derived.Test.YtolmmfbgljgdcaaGreatPrW
import Derived.Test.YtolmmfbgljgdcaaGreatLaw
import Derived.Laws.IdiomArrays
namespace Go.Proofs.YtolmmfbgljgdcaaGreat
open Go.RowKit Go.Port
theorem Rs.four {w : World} {v : Value} {l : List Int} (h : Rs w 1 v l.length (l.map (Value.int .i64))) : ∃ a c, v = .slice a l.length c ∧ l.length ≤ c ∧ c ≤ maxLen ∧ (a = none → c = 0) ∧ Cs w a (l.map iv) := by
  obtain ⟨_, a, c, h1, h2, h3, h4, h5⟩ := h
  exact ⟨a, c, h1, h2, h3, h4, h5⟩
set_option maxRecDepth 100000 in
theorem open_four {H : Type} {enc : TypeId × Value → H} {W : World} {v : Value} {d : DataW H} {ps : List MemPlace} {b0 : Nat}
    (hv : Value.okWide Tryz.prog W .any b0 23 v) (hd : DataW.Trod enc Tryz.prog W 0 (fun _ => true) true 23 v d ps) :
    ∃ (A : Nat → Option Addr) (cp : Nat → Nat) (C : Nat → List Int), v = fourV A cp C ∧ FourAt W A cp C ∧ ∀ k, k < 4 → ∀ x ∈ C k, -9223372036854775808 ≤ x ∧ x ≤ 9223372036854775807 := by
  have ht := Tryz.underlying23
  have hce : Tryz.prog.cellsOf 23 = 4 := by kernel_rfl
  have hci : Tryz.prog.cellsOf 22 = 1 := by kernel_rfl
  have hcj : Tryz.prog.cellsOf 3 = 1 := by kernel_rfl
  simp only [Value.okWide, ht] at hv
  obtain ⟨cs, rfl, hsz, _⟩ := hv
  rw [hce] at hsz
  obtain ⟨m, hf⟩ := hd
  replace hf : DataW.trod enc Tryz.prog W 0 (fun _ => true) true m 23 cs.toList = some (d, ps) := hf
  obtain ⟨l⟩ := cs
  match l, hsz with
  | [u0, u1, u2, u3], _ =>
    obtain ⟨y0, y1, y2, y3, n, _, z0, z1, z2, z3⟩ := Go.ChangeShapes.trod_array4 ht hci hf
    obtain ⟨l0, r0, b0⟩ := open_row Tryz.underlying22 Tryz.underlying3 hcj rfl z0
    obtain ⟨l1, r1, b1⟩ := open_row Tryz.underlying22 Tryz.underlying3 hcj rfl z1
    obtain ⟨l2, r2, b2⟩ := open_row Tryz.underlying22 Tryz.underlying3 hcj rfl z2
    obtain ⟨l3, r3, b3⟩ := open_row Tryz.underlying22 Tryz.underlying3 hcj rfl z3
    obtain ⟨a0, c0, rfl, e0, f0, g0, h0⟩ := Rs.four r0
    obtain ⟨a1, c1, rfl, e1, f1, g1, h1⟩ := Rs.four r1
    obtain ⟨a2, c2, rfl, e2, f2, g2, h2⟩ := Rs.four r2
    obtain ⟨a3, c3, rfl, e3, f3, g3, h3⟩ := Rs.four r3
    exact ⟨four4 a0 a1 a2 a3, four4 c0 c1 c2 c3, four4 l0 l1 l2 l3, rfl, ⟨four4_all e0 e1 e2 e3, four4_all f0 f1 f2 f3, four4_all g0 g1 g2 g3, four4_all h0 h1 h2 h3⟩,
      four4_all (fun x hx => bounds_i64 (b0 x hx)) (fun x hx => bounds_i64 (b1 x hx)) (fun x hx => bounds_i64 (b2 x hx)) (fun x hx => bounds_i64 (b3 x hx))⟩
theorem numV_two (o : Option Int) : ∃ x y : Int, numV o = .tuple #[.int .i64 x, .int .i64 y] := by
  cases o <;> exact ⟨_, _, rfl⟩
end Go.Proofs.YtolmmfbgljgdcaaGreat
