/-
  Chapter 32's laws: what an argument of three integers is in memory.
-/
import Derived.Test.YtolmmfbgljgdcaaGreatPrQ
import Derived.Test.YtolmmfbgljgdcaaGreatRpF
import Derived.Laws.IdiomArrays
namespace Go.Proofs.YtolmmfbgljgdcaaGreat
open Go.RowKit Go.Port
set_option maxRecDepth 100000 in
theorem open_three {H : Type} {enc : TypeId × Value → H} {W : World} {v : Value} {d : DataW H} {ps : List MemPlace} {b0 : Nat}
    (hv : Value.okWide Tryz.prog W .any b0 40 v) (hd : DataW.Trod enc Tryz.prog W 0 (fun _ => true) true 40 v d ps) :
    ∃ x y z : Int, v = .agg #[.int .i64 x, .int .i64 y, .int .i64 z] := by
  have ht := Tryz.underlying40
  have hce : Tryz.prog.cellsOf 40 = 3 := by kernel_rfl
  have hci : Tryz.prog.cellsOf 3 = 1 := by kernel_rfl
  simp only [Value.okWide, ht] at hv
  obtain ⟨cs, rfl, hsz, _⟩ := hv
  rw [hce] at hsz
  obtain ⟨m, hf⟩ := hd
  replace hf : DataW.trod enc Tryz.prog W 0 (fun _ => true) true m 40 cs.toList = some (d, ps) := hf
  obtain ⟨l⟩ := cs
  match l, hsz with
  | [u0, u1, u2], _ =>
    obtain ⟨y0, y1, y2, n, _, z0, z1, z2⟩ := Go.ChangeShapes.trod_array3 ht hci hf
    obtain ⟨x0, hx0, _, _⟩ := DataW.trod_int Tryz.underlying3 z0
    obtain ⟨x1, hx1, _, _⟩ := DataW.trod_int Tryz.underlying3 z1
    obtain ⟨x2, hx2, _, _⟩ := DataW.trod_int Tryz.underlying3 z2
    simp only [List.cons.injEq, and_true] at hx0 hx1 hx2
    subst hx0 hx1 hx2
    exact ⟨x0, x1, x2, rfl⟩
end Go.Proofs.YtolmmfbgljgdcaaGreat
