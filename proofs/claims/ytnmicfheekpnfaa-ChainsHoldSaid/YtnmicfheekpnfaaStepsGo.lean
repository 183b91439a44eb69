/-
  Plain laws for the laws on iterators over sequences with positions: what lies while the turns are run; a range over a function whose assignment lays one block.
-/
import Derived.Test.YtnmicfheekpnfaaPlanFrom
import Derived.Test.YtnmicfheekpnfaaMem
namespace Go.Port
open Go.RowKit
/-- The law's cells: the number of rounds, its result. -/
structure StM (w W : World) (many : Int) (t3 t4 : TypeId) : Prop where
  b0 : Blk W w.heap.size [.int .i64 many] t3
  b1 : Blk W (w.heap.size + 1) [.bool false] t4
  below : Below w.heap.size w W
theorem StM.low {w W W' : World} {many : Int} {t3 t4 : TypeId} (h : StM w W many t3 t4) (hb : Below W.heap.size W W') : StM w W' many t3 t4 :=
  ⟨h.b0.below hb h.b0.lt, h.b1.below hb h.b1.lt, h.below.trans (hb.mono h.below.size)⟩
/-- What lies while the turns are run: the law's cells, the plan and the positions wanted, the iterator's box. -/
structure GoS (w W : World) (many : Int) (l : List (Int × Sq)) (lb : Nat) (al : Option Addr) (cl pb : Nat) (ap : Option Addr) (cp g : Nat) (a5 : Option Addr) (c5 : Nat) (t3 t4 tl tp tg : TypeId) : Prop where
  st : StM w W many t3 t4
  want : Blk W lb [.slice al l.length cl] tl
  wrow : CellsAt W al ((l.map fun x => x.2).flatMap sqc)
  plc : Blk W pb [.slice ap l.length cp] tp
  prow : CellsAt W ap ((l.map fun x => x.1).map iv)
  box : Blk W g [.slice a5 l.length c5] tg
  row : CellsAt W a5 (l.flatMap stc)
theorem GoS.low {w W W' : World} {many : Int} {l : List (Int × Sq)} {lb : Nat} {al : Option Addr} {cl pb : Nat} {ap : Option Addr} {cp g : Nat} {a5 : Option Addr} {c5 : Nat} {t3 t4 tl tp tg : TypeId} (h : GoS w W many l lb al cl pb ap cp g a5 c5 t3 t4 tl tp tg) (hb : Below W.heap.size W W') : GoS w W' many l lb al cl pb ap cp g a5 c5 t3 t4 tl tp tg :=
  ⟨h.st.low hb, h.want.below hb h.want.lt, h.wrow.low hb, h.plc.below hb h.plc.lt, h.prow.low hb, h.box.below hb h.box.lt, h.row.low hb⟩
theorem fst_get {l : List (Int × Sq)} {k : Nat} {x : Int × Sq} (h : l[k]? = some x) : ((l.map fun x => x.1).map iv)[k]? = some (.int .i64 x.1) := by
  rw [List.map_map, List.getElem?_map, h]
  rfl
theorem snd_get {l : List (Int × Sq)} {k : Nat} {x : Int × Sq} (h : l[k]? = some x) : (l.map fun x => x.2)[k]? = some x.2 := by
  rw [List.getElem?_map, h]
  rfl
/-- Where the plan's matches start. -/
theorem posOf_fromL {bs : List UInt8} {A : Nat} {W D least : Int} (hA : A ≤ bs.length) : posOf 0 (seqs (fromL bs A W D 0 least)) = (fromL bs A W D 0 least).map fun x => x.1 := by
  unfold fromL
  split
  · exact posOf_planS (findS_ok (B := bs) (A := A) (W := W) (D := D) (least := least)) (greedy_in (B := bs) (A := A) (W := W) (D := D) (least := least)) _ 0 (by exact Int.self_le_toNat _) (by omega)
  · rfl
theorem ends_fromL {bs : List UInt8} {A : Nat} {W D least : Int} (hA : A ≤ bs.length) (k : Nat) (hk : k ≤ (seqs (fromL bs A W D 0 least)).length) : 0 ≤ endOf 0 ((seqs (fromL bs A W D 0 least)).take k) ∧ endOf 0 ((seqs (fromL bs A W D 0 least)).take k) ≤ (bs.length : Int) - A := by
  unfold fromL at hk ⊢
  split
  · rename_i h
    rw [if_pos h] at hk
    exact ends_planS (findS_ok (B := bs) (A := A) (W := W) (D := D) (least := least)) (greedy_in (B := bs) (A := A) (W := W) (D := D) (least := least)) (by omega) k hk
  · simp [seqs, endOf]
    omega
/-- A range over a function where the assignment lays one block of memory. -/
theorem wpIn_rangeStB {α : Type} {P : Program} {g : Operand} {ps : Array Tmp} {assign body : Code} {Q : Exit → Act → World → Prop} {a : Act} {w : World} {gf : Nat} {lb : Array Value}
    (hg : a.eval g = .func (.func gf) #[] lb) (eg : ∀ args w, (callFunc gf args).run P w = .ok (.enter gf args) w)
    {encs : α → Array Value} {S Sp : List α → Prop} {X : Nat → Prop} {T : TypeId → Bool} (hseq : SeqSt P gf lb encs S Sp X T w) (hps : ∀ x, (encs x).size = ps.size)
    (I : List α → World → Prop) (Ix : Code → List α → World → Prop) (hI : StaysC w.heap.size I) (hIx : ∀ c, StaysC w.heap.size (Ix c)) (h0 : I [] w)
    (id : Nat) (Fin : List α → World → Prop) (hfin : ∀ xs W, S xs → I xs W → Fin xs W) (hfix : ∀ c xs W, Sp xs → Ix c xs W → c = .exit id ∧ Fin xs W) (hqe : ∀ a w, Q .normal a w → Q (.exit id) a w)
    (Bx : α → List Value) (tb : TypeId) (act : α → Nat → Act)
    (hassign : ∀ (l : Nat) (pre : List α) (x : α) (W : World) (K : Act → World → Prop), I pre W → Sp (pre ++ [x]) → (∀ q, q = W.heap.size → K (act x q) (W.alloc (.cells (Bx x).toArray tb))) →
      assign.wpIn (Fence.wide.inRound l) 0 P (Exit.then K (fun _ _ _ => False)) { tmps := (ps.zip (encs x)).foldl (fun t (p, v) => t.setIfInBounds p v) a.tmps, defers := [] } W)
    (hbody : ∀ (l : Nat) (pre : List α) (x : α) (q : Nat) (W : World), I pre W → Blk W q (Bx x) tb → Sp (pre ++ [x]) → body.wpIn (Fence.wide.inRound l) 0 P (ownPostT X w.heap.size T I Ix (pre ++ [x]) W) (act x q) W)
    (hrest : ∀ (D : Nat) (xs : List α) (W : World), w.heap.size ≤ D → Fin xs W → W.heap[D]? = some (.deferred (some [])) → Q .normal { a with defers := { target := .collected D, args := #[] } :: a.defers } W) :
    (Code.rangeFunc g ps assign body).wpIn Fence.wide 1 P Q a w :=
  wpIn_rangeStOne hg eg hseq hps I Ix hI hIx h0 id Fin hfin hfix hqe (fun x a' W => ∃ q, a' = act x q ∧ Blk W q (Bx x) tb)
    (fun x a' => fun s W1 W2 row h hg hr => by
      obtain ⟨q, e, hb⟩ := h
      exact ⟨q, e, stays_cells (β := Unit) _ _ _ _ () W1 W2 row hb hg hr⟩)
    (fun l pre x W K hi hsp hK => hassign l pre x W K hi hsp (fun q hq => hK _ _ (KeepsT.low (below_new W _)) (hI.low hi (below_new W _)) ⟨q, rfl, by subst hq; exact Blk.new W _ _⟩))
    (fun l pre x a' W h1 h2 h3 => by obtain ⟨q, rfl, hb⟩ := h2; exact hbody l pre x q W h1 hb h3) hrest
end Go.Port
