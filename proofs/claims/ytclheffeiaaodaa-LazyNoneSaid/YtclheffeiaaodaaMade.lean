/-
  Finders and greedy plans, for every seat that makes finders: what their makers hand back, the plan from where its head ends.
-/
import Derived.Test.YtclheffeiaaodaaGr
import Derived.Test.YtclheffeiaaodaaRCh
import Derived.Test.YtclheffeiaaodaaRSame
import Derived.Test.YtclheffeiaaodaaLaw
import Derived.Test.YtclheffeiaaodaaPlanAll
namespace Go.Port
open Go.RowKit
theorem FdS.mono {B B' : Nat} {tf tix : TypeId} {bs : List UInt8} {A : Nat} {W D : Int} {F : Nat} {w : World} (h : FdS B tf tix bs A W D F w) (hB : B' ≤ B) : FdS B' tf tix bs A W D F w :=
  ⟨Nat.le_trans hB h.1, fun w' hs => h.2 w' fun k h1 h2 => hs k (Nat.le_trans hB h1) h2⟩
/-- Not a byte. -/
def noByte : Value → Bool
  | .int .u8 _ => false
  | _ => true
/-- Bytes lie in no block of other values. -/
theorem cells_away {w : World} {a : Option Addr} {bs : List UInt8} {R : Nat} {vs : List Value} {t : TypeId} (h : CellsAt w a (bs.map bv)) (hR : Blk w R vs t) (hv : vs.all noByte = true) (k : Nat) (u : Value) : CellsAt (w.setCell ⟨R, k, none⟩ u) a (bs.map bv) := by
  intro j v hj
  obtain ⟨b, off, e1, e2, e3⟩ := h j v hj
  have hb : b ≠ R := by
    intro e
    subst e
    obtain ⟨x, _, rfl⟩ := List.mem_map.1 (List.mem_of_getElem? hj)
    have hm : bv x ∈ vs := by
      unfold World.cell? at e3
      have hR' : w.heap[b]? = some (.cells vs.toArray t) := hR
      simp only [hR'] at e3
      exact List.mem_of_getElem? (by simpa using e3)
    have := List.all_eq_true.1 hv _ hm
    simp [noByte, bv] at this
  exact ⟨b, off, e1, by simpa using e2, (World.cell?_of_block (a := ⟨b, off + j, none⟩) (Below.heap_setCell w ⟨R, k, none⟩ u b hb)).trans e3⟩
theorem CellsAt.of_const {w : World} {g : Nat} {bs : List UInt8} (hg : g < w.heap.size) (h : ∀ j u, (bs.map bv)[j]? = some u → w.cell? ⟨g, j, none⟩ = some u) : CellsAt w (some ⟨g, 0, none⟩) (bs.map bv) := fun j u hu => ⟨g, 0, rfl, hg, by rw [Nat.zero_add]; exact h j u hu⟩
theorem Blk.cellsAt {w : World} {g : Nat} {vs : List Value} {t : TypeId} (h : Blk w g vs t) : CellsAt w (some ⟨g, 0, none⟩) vs := fun j u hu => ⟨g, 0, rfl, h.lt, by rw [Nat.zero_add]; exact h.cell hu⟩
end Go.Port
namespace Go.Port
open Go.RowKit
/-- The arguments by which a finder is made. -/
structure MadeOk (mx : Int) (A D : List UInt8) (W dep : Int) : Prop where
  hA : (A.length : Int) ≤ mx
  hD : (D.length : Int) ≤ mx
  hk : finderOk D.length W dep = true
theorem from_cost {bs : List UInt8} {A : Nat} {W D least : Int} (hA : A ≤ bs.length) (hW : W ≤ 134217728) (he : fromE bs A 0 least = 0) :
    ∃ r, costM ((bs.length : Int) - A) (seqs (fromL bs A W D 0 least)) = some r ∧ r ≤ 8 * ((bs.length : Int) - A) + 15 * ((seqs (fromL bs A W D 0 least)).length : Nat) := by
  have hl : fromL bs A W D 0 least = planS (greedyA (findS bs A W D) least) ((bs.length : Int) - A) 0 0 := by unfold fromL; rw [if_pos he]; rfl
  obtain ⟨r, h1, h2⟩ := planS_cost (findS_ok (B := bs) (A := A) (W := W) (D := D) (least := least)) (greedy_in (B := bs) (A := A) (W := W) (D := D) (least := least)) hW ((bs.length : Int) - A - 0).toNat 0 0 (8 * ((bs.length : Int) - A)) (by omega) (Int.le_refl _) (by omega) greedy_goes
  refine ⟨r, ?_, ?_⟩
  · rw [hl]
    unfold costM
    rw [if_neg (by omega)]
    rw [Int.sub_zero] at h1
    exact h1
  · rw [hl]
    unfold seqs
    rw [List.length_map]
    exact h2
theorem finderOk_bounds {n : Nat} {W D : Int} (h : finderOk n W D = true) : (1 ≤ W ∧ W ≤ 134217728) ∧ (1 ≤ D ∧ D ≤ 4096) := by
  unfold finderOk at h
  simp only [Bool.and_eq_true, decide_eq_true_eq] at h
  omega
end Go.Port
namespace Go.Port
open Go.RowKit
theorem fromE_zero {bs : List UInt8} {A : Nat} {p least : Int} (h1 : 3 ≤ least) (h2 : 0 ≤ p) (h3 : p ≤ (bs.length : Int) - A) : fromE bs A p least = 0 := by
  unfold fromE
  rw [if_neg (by omega), if_neg (by omega)]
theorem fromL_ok {bs : List UInt8} {A : Nat} {W D p least : Int} (h1 : 3 ≤ least) (h2 : 0 ≤ p) (h3 : p ≤ (bs.length : Int) - A) : fromL bs A W D p least = planS (greedyA (findS bs A W D) least) ((bs.length : Int) - A) p p := by
  unfold fromL
  rw [if_pos (fromE_zero h1 h2 h3)]
  rfl
theorem CellsAt.dropSq {w : World} {a : Option Addr} {l : List Sq} {k : Nat} (h : CellsAt w a (l.flatMap sqc)) (hk : k ≤ l.length) : CellsAt w (a.map fun x => x.add (k * 3)) ((l.drop k).flatMap sqc) := by
  intro q u hu
  have hs : (l.flatMap sqc)[k * 3 + q]? = some u := by
    have h3 : l.flatMap sqc = (l.take k).flatMap sqc ++ (l.drop k).flatMap sqc := by rw [← List.flatMap_append, List.take_append_drop]
    have h4 : ((l.take k).flatMap sqc).length = k * 3 := by rw [sqc_length, List.length_take, Nat.min_eq_left hk]
    rw [h3, List.getElem?_append_right (by omega), h4, Nat.add_sub_cancel_left]
    exact hu
  obtain ⟨b2, o2, rfl, e2, e3⟩ := h _ _ hs
  exact ⟨b2, o2 + k * 3, by simp [Go.WideShapes.add_plain], e2, by rw [Nat.add_assoc]; exact e3⟩
/-- Where the head of a greedy plan ends the rest begins. -/
theorem fromL_rest {bs : List UInt8} {A : Nat} {W D least : Int} (h1 : 3 ≤ least) (hA : A ≤ bs.length) {k : Nat} (hk : k ≤ (seqs (fromL bs A W D 0 least)).length) :
    seqs (fromL bs A W D (endOf 0 ((seqs (fromL bs A W D 0 least)).take k)) least) = (seqs (fromL bs A W D 0 least)).drop k ∧ 0 ≤ endOf 0 ((seqs (fromL bs A W D 0 least)).take k) ∧ endOf 0 ((seqs (fromL bs A W D 0 least)).take k) ≤ (bs.length : Int) - A := by
  rw [fromL_ok h1 (Int.le_refl _) (by omega)] at hk ⊢
  obtain ⟨i1, i2, i3⟩ := planS_drop (findS_ok (B := bs) (A := A) (W := W) (D := D) (least := least)) (greedy_in (B := bs) (A := A) (W := W) (D := D) (least := least)) k 0 (by omega) (by unfold seqs at hk; rwa [List.length_map] at hk)
  have i2' : 0 ≤ endOf 0 ((seqs (planS (greedyA (findS bs A W D) least) ((bs.length : Int) - A) 0 0)).take k) := i2
  have i3' : endOf 0 ((seqs (planS (greedyA (findS bs A W D) least) ((bs.length : Int) - A) 0 0)).take k) ≤ (bs.length : Int) - A := i3
  refine ⟨?_, i2', i3'⟩
  rw [fromL_ok h1 i2' i3']
  unfold seqsL at i1
  unfold seqs
  have i1' := congrArg (List.map (fun x : Int × Sq => x.2)) i1
  rw [List.map_drop] at i1'
  exact i1'
theorem seqs_pos {bs : List UInt8} {A : Nat} {W D p least : Int} : ∀ s ∈ seqs (fromL bs A W D p least), 0 ≤ s.lit ∧ 3 ≤ s.len ∧ least ≤ s.len ∧ 1 ≤ s.off ∧ s.off ≤ W := by
  intro s hs
  obtain ⟨x, hx, rfl⟩ := List.mem_map.1 hs
  unfold fromL at hx
  split at hx
  · unfold greedyP at hx
    obtain ⟨h1, h2, s', lit, h3, h4, h5, h6⟩ := planS_mem (findS_ok (B := bs) (A := A) (W := W) (D := D) (least := least)) ((bs.length : Int) - A) _ p p x (by exact Int.self_le_toNat _) (Int.le_refl _) hx
    have hf := greedyA_take h3
    have := findS_form hf.1
    rw [h4]
    exact ⟨h5, this.2.1, hf.2, this.2.2.1, this.2.2.2.2.2.1⟩
  · cases hx
theorem fromL_none {bs : List UInt8} {A : Nat} {W D least : Int} (h : (bs.length : Int) - A < least) : fromL bs A W D 0 least = [] := by
  unfold fromL
  split
  · exact planS_nil findS_ok fun q s e => by
      have := greedyA_take e
      have := findS_form this.1
      omega
  · rfl
end Go.Port
namespace Go.Proofs.Ytclheffeiaaodaa
open Go.RowKit Go.Port

theorem rsame_self (a1 a2 : Option Addr) (c1 c2 : Nat) (l : List Sq) (w : World) (hl : l.length ≤ 1000000) (hc1 : CellsAt w a1 (l.flatMap sqc)) (hc2 : CellsAt w a2 (l.flatMap sqc)) :
    Calls Try.prog 15 #[.slice a1 l.length c1, .slice a2 l.length c2] w fun e w' => e = .returned (.bool true) ∧ ∃ m, w' = w.drewN m := by
  have := rsame_any a1 a2 c1 c2 l l w hl hl hc1 hc2
  rwa [decide_eq_true rfl] at this
theorem same_ex (w : World) (a : Option Addr) (c g : Nat) (l : List Sq) (hl : l.length ≤ 10) (h : CellsAt w a (l.flatMap sqc)) (hg : Blk w g (l.flatMap sqc) 49) :
    Calls Try.prog 15 #[.slice a l.length c, .slice (some ⟨g, 0, none⟩) l.length l.length] w fun e w' => e = .returned (.bool true) ∧ ∃ m, w' = w.drewN m := by
  have := rsame_any a (some ⟨g, 0, none⟩) c l.length l l w (by omega) (by omega) h hg.cellsAt
  simpa using this
end Go.Proofs.Ytclheffeiaaodaa
