/-
  The walks of layer 31's statements: finders made, all ways.
-/
import Derived.Test.YtclheffeiaaodaaLzK
namespace Go.Proofs.Ytclheffeiaaodaa
open Go.RowKit Go.Port

theorem made_any (v1 v2 : Value) (A D : List UInt8) (W dep : Int) (w : World) (h1 : Rs w 1 v1 A.length (A.map bv)) (h2 : Rs w 1 v2 D.length (D.map bv)) :
    Calls Try.prog 11 #[v1, v2, .int .i64 W, .int .i64 dep] w fun e w' => (e = .returned (.tuple #[.pointer none, fdv none 0 0 0 0 0, .bool false]) ∧ Below w.heap.size w w') ∨
      (MadeOk 150 A D W dep ∧ ∃ F a c, e = .returned (.tuple #[.pointer (some ⟨F, 0, none⟩), fdv a (A ++ D).length c A.length W dep, .bool true]) ∧ FdAt 64 130 (A ++ D) A.length W dep F w' ∧ CellsAt w' a ((A ++ D).map bv) ∧ (A ++ D).length ≤ c ∧ Below w.heap.size w w') := by
  obtain ⟨_, a1, c1, rfl, hc1, _, hn1, hcell1⟩ := h1
  obtain ⟨_, a2, c2, rfl, hc2, _, hn2, hcell2⟩ := h2
  by_cases hl : ((A.length : Int) ≤ 150 ∧ (D.length : Int) ≤ 150)
  · cases hk : finderOk D.length W dep with
    | false => exact (made_bad a1 a2 A.length D.length c1 c2 W dep w hl.1 hl.2 hk).mono fun _ _ h => .inl h
    | true =>
      refine (made_ok a1 a2 c1 c2 A D W dep w hl.1 hl.2 hc1 hc2 hn1 hn2 hcell1 hcell2 hk).mono ?_
      rintro e w' ⟨F, a, c, h3, h4, h5, h6, h7⟩
      exact .inr ⟨⟨hl.1, hl.2, hk⟩, F, a, c, h3, h4.at, h5, h6, h7⟩
  · exact (made_long a1 a2 A.length D.length c1 c2 W dep w hl).mono fun _ _ h => .inl h
end Go.Proofs.Ytclheffeiaaodaa
