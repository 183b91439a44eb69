/-
  Finders made, for every seat that makes finders.
-/
import Derived.Test.YtnmicfheekpnfaaCh
import Derived.Test.YtnmicfheekpnfaaRCh
import Derived.Test.YtnmicfheekpnfaaLaw
namespace Go.Port
open Go.RowKit
theorem FdS.mono {B B' : Nat} {tf tix : TypeId} {bs : List UInt8} {A : Nat} {W D : Int} {F : Nat} {w : World} (h : FdS B tf tix bs A W D F w) (hB : B' ≤ B) : FdS B' tf tix bs A W D F w :=
  ⟨Nat.le_trans hB h.1, fun w' hs => h.2 w' fun k h1 h2 => hs k (Nat.le_trans hB h1) h2⟩
/-- Not a byte. -/
def noByte : Value → Bool
  | .int .u8 _ => false
  | _ => true
/-- Bytes lie in no block of other values. -/
theorem cells_away {w : World} {a : Option Addr} {bs : List UInt8} {R : Nat} {vs : List Value} {t : TypeId} (h : CellsAt w a (bs.map bv)) (hR : Blk w R vs t) (hv : vs.all noByte = true) (k : Nat) (u : Value) : CellsAt (w.setCell ⟨R, k, none⟩ u) a (bs.map bv) := by
  intro j v hj
  obtain ⟨b, off, e1, e2, e3⟩ := h j v hj
  have hb : b ≠ R := by
    intro e
    subst e
    obtain ⟨x, _, rfl⟩ := List.mem_map.1 (List.mem_of_getElem? hj)
    have hm : bv x ∈ vs := by
      unfold World.cell? at e3
      have hR' : w.heap[b]? = some (.cells vs.toArray t) := hR
      simp only [hR'] at e3
      exact List.mem_of_getElem? (by simpa using e3)
    have := List.all_eq_true.1 hv _ hm
    simp [noByte, bv] at this
  exact ⟨b, off, e1, by simpa using e2, (World.cell?_of_block (a := ⟨b, off + j, none⟩) (Below.heap_setCell w ⟨R, k, none⟩ u b hb)).trans e3⟩
theorem CellsAt.of_const {w : World} {g : Nat} {bs : List UInt8} (hg : g < w.heap.size) (h : ∀ j u, (bs.map bv)[j]? = some u → w.cell? ⟨g, j, none⟩ = some u) : CellsAt w (some ⟨g, 0, none⟩) (bs.map bv) := fun j u hu => ⟨g, 0, rfl, hg, by rw [Nat.zero_add]; exact h j u hu⟩
theorem Blk.cellsAt {w : World} {g : Nat} {vs : List Value} {t : TypeId} (h : Blk w g vs t) : CellsAt w (some ⟨g, 0, none⟩) vs := fun j u hu => ⟨g, 0, rfl, h.lt, by rw [Nat.zero_add]; exact h.cell hu⟩
end Go.Port
namespace Go.Port
open Go.RowKit
/-- The arguments by which a finder is made. -/
structure MadeOk (mx : Int) (A D : List UInt8) (W dep : Int) : Prop where
  hA : (A.length : Int) ≤ mx
  hD : (D.length : Int) ≤ mx
  hk : finderOk D.length W dep = true
theorem finderOk_bounds {n : Nat} {W D : Int} (h : finderOk n W D = true) : (1 ≤ W ∧ W ≤ 134217728) ∧ (1 ≤ D ∧ D ≤ 4096) := by
  unfold finderOk at h
  simp only [Bool.and_eq_true, decide_eq_true_eq] at h
  omega
end Go.Port
