/-
  The walks of the reference of layer 30: the cost of the greedy plan.
-/
import Derived.Test.YtngphgdoolcpcaaGrD
import Derived.Test.YtngphgdoolcpcaaRSame
import Derived.Test.YtngphgdoolcpcaaMatchI
namespace Go.Proofs.Ytngphgdoolcpcaa
open Go.RowKit Go.Port

/-- The reference's finder of a plan; its cost. -/
theorem rgprice_any (bs : List UInt8) (a : Option Addr) (c A : Nat) (W D : Int) (w : World) (hb : bs.length ≤ 100000) (hbc : bs.length ≤ c) (hA : A ≤ bs.length) (hW : 1 ≤ W ∧ W ≤ 134217728) (hD : 1 ≤ D ∧ D ≤ 4096)
    (hc : CellsAt w a (bs.map bv)) :
    Calls Try.prog 18 #[fdv a bs.length c A W D] w (RetV w (.int .i64 ((costM ((bs.length : Int) - A) (seqs (fromL bs A W D 0 3))).getD 0))) := by
  have hX := Blk.new w (fdc a bs.length c A W D) 25
  have hB := below_new w (.cells (fdc a bs.length c A W D).toArray 25)
  have HG := hid (rgreedy_any bs a c A W D 0 3 _ (by omega) hbc hA hW hD (hc.low hB))
  have hlen := fromL_length bs A W D 0 3
  have hin := seqs_in (bs := bs) (A := A) (W := W) (D := D) (p := 0) (least := 3) (by omega) hW.2
  have hw1 : IntKind.i64.wrap ((bs.length : Int) - (A : Int)) = (bs.length : Int) - (A : Int) := by rw [IntKind.wrap_i64]; omega
  have hs1 : (bs.length : Int) - (A : Int) ≤ 1099511627776 := by omega
  have hln : (seqs (fromL bs A W D 0 3)).length = (fromL bs A W D 0 3).length := by unfold seqs; rw [List.length_map]
  rw [← hln] at HG hlen
  generalize seqs (fromL bs A W D 0 3) = l at *
  have HPr := hid (fun a2 c2 W' h => rprice_any a2 c2 ((bs.length : Int) - (A : Int)) l W' hs1 (by omega) hin h)
  unfold costR at HPr
  generalize (costM ((bs.length : Int) - (A : Int)) l).getD 0 = R at *
  generalize (if (costM ((bs.length : Int) - (A : Int)) l).isSome = true then (0 : Int) else 15) = E at HPr
  unfold fdc at hX hB HG
  unfold fdv at HG ⊢
  have c0 := hX.cell (k := 0) rfl
  have c1 := hX.cell (k := 1) rfl
  have c2 := hX.cell (k := 2) rfl
  have c3 := hX.cell (k := 3) rfl
  have HX := hid hX
  have HB := hid hB
  clear hX hB hc hb hbc hA hW hD hlen hin hln hs1
  go_enter Try.func18, Try.ntmps18
  go_wp2_with fail
  refine HG.out.mono ?_
  rintro e w1 ⟨v, rfl, hown, hb1⟩
  obtain ⟨av, cv, rfl⟩ := own_slice hown
  have hcl := (Sl.of_owns hown).cells' rfl
  have hX1 := HX.out.below hb1 HX.out.lt
  have HB1 := hid (HB.out.trans (hb1.mono HB.out.size))
  have d0 := hX1.cell (k := 0) rfl
  have d1 := hX1.cell (k := 1) rfl
  have HC := hid hcl
  clear hown hb1 hX1 hcl c0 c1 c2 c3 HX HB HG
  go_wp2_with fail
  refine (HPr.out _ _ _ HC.out).mono ?_
  rintro e w2 ⟨rfl, hb2⟩
  have HB2 := hid (HB1.out.trans (hb2.mono HB1.out.size))
  clear d0 d1 hb2
  go_wp2
  go_ret
  exact ⟨rfl, HB2.out⟩
end Go.Proofs.Ytngphgdoolcpcaa
