/-
  Chapter 32's laws: what an argument of one sequence is in memory.
-/
import Derived.Test.YtolmmfbgljgdcaaGreatLaw
import Derived.Test.YtolmmfbgljgdcaaGreatPrL
namespace Go.Proofs.YtolmmfbgljgdcaaGreat
open Go.RowKit Go.Port
set_option maxRecDepth 100000 in
theorem open_seq {H : Type} {enc : TypeId × Value → H} {W : World} {v : Value} {d : DataW H} {ps : List MemPlace} {b0 : Nat}
    (hv : Value.okWide Tryz.prog W .any b0 42 v) (hd : DataW.Trod enc Tryz.prog W 0 (fun _ => true) true 42 v d ps) :
    ∃ x y z : Int, v = .agg #[.int .i64 x, .int .i64 y, .int .i64 z] ∧ (-9223372036854775808 ≤ x ∧ x ≤ 9223372036854775807) ∧ (-9223372036854775808 ≤ y ∧ y ≤ 9223372036854775807) ∧ (-9223372036854775808 ≤ z ∧ z ≤ 9223372036854775807) := by
  have ht := Tryz.underlying42
  have hce : Tryz.prog.cellsOf 42 = 3 := by kernel_rfl
  have hci : Tryz.prog.cellsOf 3 = 1 := by kernel_rfl
  simp only [Value.okWide, ht] at hv
  obtain ⟨cs, rfl, hsz, _⟩ := hv
  rw [hce] at hsz
  obtain ⟨m, hf⟩ := hd
  replace hf : DataW.trod enc Tryz.prog W 0 (fun _ => true) true m 42 cs.toList = some (d, ps) := hf
  obtain ⟨l⟩ := cs
  match l, hsz with
  | [u0, u1, u2], _ =>
    obtain ⟨ys, n2, _, _, _, hyl, hyg⟩ := DataW.trod_struct ht hf
    have y0 := hyg 0 _ rfl
    have y1 := hyg 1 _ rfl
    have y2 := hyg 2 _ rfl
    obtain ⟨w0, hw0⟩ : ∃ x0, ys[0]? = some x0 := ⟨_, List.getElem?_eq_getElem (by rw [hyl]; decide)⟩
    obtain ⟨w1, hw1⟩ : ∃ x0, ys[1]? = some x0 := ⟨_, List.getElem?_eq_getElem (by rw [hyl]; decide)⟩
    obtain ⟨w2, hw2⟩ : ∃ x0, ys[2]? = some x0 := ⟨_, List.getElem?_eq_getElem (by rw [hyl]; decide)⟩
    rw [hw0] at y0
    rw [hw1] at y1
    rw [hw2] at y2
    have z0 : DataW.trod enc Tryz.prog W 0 (fun _ => true) true n2 3 [u0] = some w0 := by simpa [hci] using y0
    have z1 : DataW.trod enc Tryz.prog W 0 (fun _ => true) true n2 3 [u1] = some w1 := by simpa [hci] using y1
    have z2 : DataW.trod enc Tryz.prog W 0 (fun _ => true) true n2 3 [u2] = some w2 := by simpa [hci] using y2
    obtain ⟨x0, hx0, _, f0⟩ := DataW.trod_int Tryz.underlying3 z0
    obtain ⟨x1, hx1, _, f1⟩ := DataW.trod_int Tryz.underlying3 z1
    obtain ⟨x2, hx2, _, f2⟩ := DataW.trod_int Tryz.underlying3 z2
    simp only [List.cons.injEq, and_true] at hx0 hx1 hx2
    subst hx0 hx1 hx2
    exact ⟨x0, x1, x2, rfl, bounds_i64 f0, bounds_i64 f1, bounds_i64 f2⟩
end Go.Proofs.YtolmmfbgljgdcaaGreat
