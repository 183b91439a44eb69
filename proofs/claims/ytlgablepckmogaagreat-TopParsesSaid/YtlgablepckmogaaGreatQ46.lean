/-
  Plain laws of TopParses: a plan that is one of its data, executed with the literals that it leaves, yields the data. No program in sight.
  The walks of layer 26 (exec), third part: Check; the state of an execution; takes, does.
-/
import Derived.Test.YtlgablepckmogaaGreatQ39
import Derived.Test.YtlgablepckmogaaGreatQ45
import Derived.Test.YtlgablepckmogaaGreatQ22
namespace Go.Port
open Go.RowKit
theorem lend_is : ∀ (l : List Sq) (a : Int), lend a l = endOf a l := by
  intro l
  induction l with
  | nil => intro a; rfl
  | cons s r ih => intro a; exact ih _
/-- A plan of the data D behind A: its sequences at their places. -/
theorem VerOk.tail {bs : List UInt8} {A : Nat} {W : Int} : ∀ (l : List Sq) (p : Int), VerOk bs A W p l → p ≤ (bs.length : Int) - A → p ≤ endOf p l ∧ endOf p l ≤ (bs.length : Int) - A := by
  intro l
  induction l with
  | nil => intro p _ h; exact ⟨Int.le_refl _, h⟩
  | cons s r ih =>
    intro p h hp
    obtain ⟨q0, q1, q2, q3, q4, q5, q6, q7⟩ := h.1
    obtain ⟨h1, h2⟩ := ih _ h.2 q3
    exact ⟨by show p ≤ endOf (p + s.lit + s.len) r; omega, h2⟩
theorem ver_planEnd {bs : List UInt8} {A : Nat} {W : Int} (hs : (bs.length : Int) - A ≤ 131072) : ∀ (l : List Sq) (p : Int), VerOk bs A W p l → 0 ≤ p → p ≤ (bs.length : Int) - A → planEnd p l = some (endOf p l) := by
  intro l
  induction l with
  | nil => intro p _ _ _; rfl
  | cons s r ih =>
    intro p h hp hp2
    obtain ⟨q0, q1, q2, q3, q4, q5, q6, q7⟩ := h.1
    unfold planEnd
    rw [if_pos (by
      unfold linB
      simp only [Bool.and_eq_true, decide_eq_true_eq]
      omega)]
    exact ih _ h.2 (by omega) q3
end Go.Port
namespace Go.Proofs.YtlgablepckmogaaGreat
open Go.RowKit Go.Port
theorem ver_lits {A D : List UInt8} {W : Int} {l : List Sq} (h : VerOk (A ++ D) A.length W 0 l) (hD : D.length ≤ 131072) : plitsO D l = true := by
  have hb : ((A ++ D).length : Int) - (A.length : Int) = D.length := by rw [List.length_append]; omega
  unfold plitsO
  rw [ver_planEnd (by omega) l 0 h (Int.le_refl _) (by omega)]
  have := (VerOk.tail l 0 h (by omega)).2
  simp only [decide_eq_true_eq]
  omega
end Go.Proofs.YtlgablepckmogaaGreat
namespace Go.Port
open Go.RowKit
/-- How many literals a plan leaves behind a place. -/
theorem litsGo_length {A D : List UInt8} {W : Int} : ∀ (l : List Sq) (p : Int), VerOk (A ++ D) A.length W p l → ((litsGo D p l).length : Int) = litT l := by
  intro l
  induction l with
  | nil => intro p _; rfl
  | cons s r ih =>
    intro p h
    obtain ⟨q0, q1, q2, q3, q4, q5, q6, q7⟩ := h.1
    have hb : ((A ++ D).length : Int) - (A.length : Int) = D.length := by rw [List.length_append]; omega
    simp only [litsGo, litT, List.length_append, List.length_take, List.length_drop]
    have := ih _ h.2
    omega
theorem litT_nonneg {bs : List UInt8} {A : Nat} {W : Int} : ∀ (l : List Sq) (p : Int), VerOk bs A W p l → 0 ≤ litT l := by
  intro l
  induction l with
  | nil => intro p _; exact Int.le_refl _
  | cons s r ih =>
    intro p h
    have := h.1.lit
    have := ih _ h.2
    simp only [litT]
    omega
theorem litT_split (l : List Sq) (k : Nat) : litT l = litT (l.take k) + litT (l.drop k) := by
  induction l generalizing k with
  | nil => simp [litT]
  | cons s r ih =>
    cases k with
    | zero => simp [litT]
    | succ k =>
      simp only [List.take_succ_cons, List.drop_succ_cons, litT]
      have := ih k
      omega
theorem VerOk.rest {bs : List UInt8} {A : Nat} {W : Int} : ∀ (l : List Sq) (p : Int) (k : Nat), VerOk bs A W p l → VerOk bs A W (endOf p (l.take k)) (l.drop k) := by
  intro l
  induction l with
  | nil => intro p k h; simp [VerOk]
  | cons s r ih =>
    intro p k h
    cases k with
    | zero => exact h
    | succ k => exact ih _ k h.2
/-- The literals left behind k sequences. -/
def leftL (D : List UInt8) (l : List Sq) (k : Nat) : List UInt8 := litsGo D (endOf 0 (l.take k)) (l.drop k) ++ D.drop (endOf 0 l).toNat
theorem leftL_zero (D : List UInt8) (l : List Sq) : leftL D l 0 = litsS D l := by
  unfold leftL litsS
  rw [lend_is]
  rfl
theorem leftL_step {D : List UInt8} {l : List Sq} {k : Nat} {s : Sq} (hs : l[k]? = some s) : leftL D l k = (D.drop (endOf 0 (l.take k)).toNat).take s.lit.toNat ++ leftL D l (k + 1) := by
  unfold leftL
  have hlt := (List.getElem?_eq_some_iff.1 hs)
  obtain ⟨h1, h2⟩ := hlt
  rw [List.drop_eq_getElem_cons h1, h2, take_snoc hs, endOf_snoc2, ← List.append_assoc]
  rfl
theorem leftL_end (D : List UInt8) (l : List Sq) : leftL D l l.length = D.drop (endOf 0 l).toNat := by
  unfold leftL
  rw [List.drop_length]
  rfl
theorem take_take_drop (D : List UInt8) (P n : Nat) : D.take P ++ (D.drop P).take n = D.take (P + n) := by rw [List.take_add]
/-- What a sequence copies, behind the history and the data so far. -/
theorem copy_is {A D : List UInt8} {W p : Int} {s : Sq} (h : SeqOk (A ++ D) A.length W p s) (P Li Ln Of : Nat) (hp : p = (P : Int)) (h1 : s.lit = (Li : Int)) (h2 : s.len = (Ln : Int)) (h3 : s.off = (Of : Int)) :
    copyS (A ++ D.take (P + Li)) Of Ln = (D.drop (P + Li)).take Ln := by
  obtain ⟨q0, q1, q2, q3, q4, q5, q6, q7⟩ := h
  subst hp
  rw [h1, h2, h3] at *
  have hb : (A ++ D).length = A.length + D.length := List.length_append
  have e1 : A ++ D.take (P + Li) = (A ++ D).take (A.length + (P + Li)) := by rw [List.take_length_add_append]
  have e3 : (A ++ D).drop (A.length + (P + Li)) = D.drop (P + Li) := by rw [← List.drop_drop, List.drop_left]
  have e2 : (D.drop (P + Li)).take Ln = ((A ++ D).drop (A.length + (P + Li))).take Ln := by rw [e3]
  rw [e1, e2]
  refine copyS_is (by omega) (by omega) (by omega) (fun j hj => ?_)
  have := q7 j (by omega)
  rw [show ((A.length : Int) + ((P : Int) + (Li : Int))).toNat = A.length + (P + Li) from by omega, show ((A.length : Int) + ((P : Int) + (Li : Int)) - (Of : Int)).toNat = A.length + (P + Li) - Of from by omega] at this
  rw [this]
  congr 1
  omega
/-- A sequence of a plan breaks no rule of the check. -/
theorem ver_check {A D : List UInt8} {W : Nat} {l : List Sq} (h : VerOk (A ++ D) A.length (W : Int) 0 l) (hD : D.length ≤ 100000) (hA : A.length ≤ 100000) (hW : 1 ≤ W) (hW2 : W ≤ 134217728) (k : Nat) (s : Sq) (hs : l[k]? = some s) :
    XIn ⟨s, (k : Int), (W : Int), ((min W A.length : Nat) : Int), ((litsS D l).length : Int) - litT (l.take k), 131072, endOf 0 (l.take k)⟩ ∧ XFit ⟨s, (k : Int), (W : Int), ((min W A.length : Nat) : Int), ((litsS D l).length : Int) - litT (l.take k), 131072, endOf 0 (l.take k)⟩ := by
  have hb : ((A ++ D).length : Int) - (A.length : Int) = D.length := by rw [List.length_append]; omega
  have hq := h.drop l 0 k s hs
  obtain ⟨q0, q1, q2, q3, q4, q5, q6, q7⟩ := hq
  have hr := VerOk.rest l 0 k h
  have hsp := litT_split l k
  have hlen := litsGo_length l 0 h
  have he := VerOk.tail l 0 h (by omega)
  have hll : ((litsS D l).length : Int) = litT l + (D.length - endOf 0 l) := by
    unfold litsS
    rw [lend_is, List.length_append, List.length_drop]
    omega
  have ht0 := litT_nonneg (l.drop k) _ hr
  have hdk : litT (l.drop k) = s.lit + litT (l.drop (k + 1)) := by
    obtain ⟨h1, h2⟩ := List.getElem?_eq_some_iff.1 hs
    rw [List.drop_eq_getElem_cons h1, h2]
    rfl
  have hr2 := litT_nonneg (l.drop (k + 1)) _ (VerOk.rest l 0 (k + 1) h)
  have hlt2 : litT l ≤ D.length := by
    have h5 := litsS_len (bs := D) (ver_planEnd (by omega) l 0 h (Int.le_refl _) (by omega)) (by omega)
    omega
  have ht1 : 0 ≤ litT (l.take k) := by
    have aux : ∀ (m : List Sq) (p : Int) (j : Nat), VerOk (A ++ D) A.length (W : Int) p m → 0 ≤ litT (m.take j) := by
      intro m
      induction m with
      | nil => intro p j _; simp [litT]
      | cons x r ih =>
        intro p j hx
        cases j with
        | zero => simp [litT]
        | succ j =>
          have := hx.1.lit
          have := ih _ j hx.2
          simp only [List.take_succ_cons, litT]
          omega
    exact aux l 0 k h
  refine ⟨⟨q1, ?_, q2, ?_, q4, q5, ?_, ?_, ?_, q0, ?_, ?_, ?_⟩, rfl, ?_, q0, q1, q2⟩
  all_goals (dsimp only; omega)
/-- .. and its end. -/
theorem ver_end {A D : List UInt8} {W : Int} {l : List Sq} (h : VerOk (A ++ D) A.length W 0 l) (hD : D.length ≤ 100000) :
    ((litsS D l).length : Int) - litT l = D.length - endOf 0 l ∧ 0 ≤ endOf 0 l ∧ endOf 0 l ≤ D.length := by
  have hb : ((A ++ D).length : Int) - (A.length : Int) = D.length := by rw [List.length_append]; omega
  have hlen := litsGo_length l 0 h
  have he := VerOk.tail l 0 h (by omega)
  unfold litsS
  rw [lend_is, List.length_append, List.length_drop]
  omega
end Go.Port
namespace Go.Port
open Go.RowKit
/-- A block of bytes that no turn of the ring or of the execution meets. -/
def FarB (te : TypeId) (rb xb : Nat) (row : Option Nat) (w : World) (b : Nat) : Prop := b ≠ rb ∧ b ≠ xb ∧ some b ≠ row ∧ ∃ cs z, w.heap[b]? = some (.cells cs te z)
/-- A slice that reads as the bytes bs, in such a block. -/
def PcAt (te : TypeId) (rb xb : Nat) (row : Option Nat) (w : World) (a : Option Addr) (c : Nat) (bs : List UInt8) : Prop := bs.length ≤ c ∧ (a = none → c = 0) ∧ CellsAt w a (bs.map bv) ∧ ∀ x, a = some x → FarB te rb xb row w x.block
/-- An execution: its ring, the literals left. -/
structure ExAt (tr te tx : TypeId) (base rb xb : Nat) (row : Option Nat) (size : Nat) (st ll : List UInt8) (w : World) : Prop where
  ring : RgAt tr te base rb row size st w
  ex : ∃ la lc, Blk w xb [.pointer (some ⟨rb, 0, none⟩), .slice la ll.length lc] tx ∧ PcAt te rb xb row w la lc ll
  xb0 : base ≤ xb
  ne : tx ≠ te
  ne2 : tx ≠ tr
/-- .. turned: the ring, its row and the execution's own block alone. -/
structure TurnX (rb xb : Nat) (row row' : Option Nat) (w w' : World) : Prop where
  os : w'.os = w.os
  tape : w'.tape = w.tape
  output : w'.output = w.output
  size : w.heap.size ≤ w'.heap.size
  block : ∀ k, k < w.heap.size → k ≠ rb → k ≠ xb → some k ≠ row → w'.heap[k]? = w.heap[k]?
  next : row' = row ∨ ∀ r, row' = some r → w.heap.size ≤ r
theorem TurnX.refl (rb xb : Nat) (row : Option Nat) (w : World) : TurnX rb xb row row w w := ⟨rfl, rfl, rfl, Nat.le_refl _, fun _ _ _ _ _ => rfl, .inl rfl⟩
theorem TurnX.of_below {rb xb : Nat} {row : Option Nat} {w w' : World} (h : Below w.heap.size w w') : TurnX rb xb row row w w' := ⟨h.os, h.tape, h.output, h.size, fun k hk _ _ _ => h.block k hk, .inl rfl⟩
theorem TurnX.of_turned {rb : Nat} (xb : Nat) {row row' : Option Nat} {w w' : World} (h : Turned rb row row' w w') : TurnX rb xb row row' w w' := ⟨h.os, h.tape, h.output, h.size, fun k hk h1 _ h2 => h.block k hk h1 h2, h.next⟩
theorem TurnX.of_set {rb xb : Nat} (row : Option Nat) (w : World) (k : Nat) (u : Value) : TurnX rb xb row row w (w.setCell ⟨xb, k, none⟩ u) := ⟨rfl, rfl, rfl, by simp, fun b _ _ h2 _ => Below.heap_setCell w ⟨xb, k, none⟩ u b h2, .inl rfl⟩
theorem TurnX.far {rb xb : Nat} {r0 r1 : Option Nat} {w w1 : World} (h : TurnX rb xb r0 r1 w w1) {b : Nat} (hb : b < w.heap.size) (h2 : some b ≠ r0) : some b ≠ r1 := fun e => by
  rcases h.next with h3 | h3
  · rw [h3] at e; exact h2 e
  · have := h3 b e.symm; omega
theorem TurnX.trans {rb xb : Nat} {r0 r1 r2 : Option Nat} {w w1 w2 : World} (h : TurnX rb xb r0 r1 w w1) (k : TurnX rb xb r1 r2 w1 w2) : TurnX rb xb r0 r2 w w2 := by
  refine ⟨k.os.trans h.os, k.tape.trans h.tape, k.output.trans h.output, Nat.le_trans h.size k.size, fun b hb h1 h3 h2 => (k.block b (Nat.lt_of_lt_of_le hb h.size) h1 h3 (h.far hb h2)).trans (h.block b hb h1 h3 h2), ?_⟩
  rcases k.next with h3 | h3
  · rw [h3]; exact h.next
  · exact .inr fun r e => Nat.le_trans h.size (h3 r e)
theorem FarB.lt {te : TypeId} {rb xb : Nat} {row : Option Nat} {w : World} {b : Nat} (h : FarB te rb xb row w b) : b < w.heap.size := by
  obtain ⟨_, _, _, cs, z, h4⟩ := h
  exact (Array.getElem?_eq_some_iff.1 h4).1
theorem FarB.turn {te : TypeId} {rb xb : Nat} {r0 r1 : Option Nat} {w w1 : World} {b : Nat} (h : FarB te rb xb r0 w b) (ht : TurnX rb xb r0 r1 w w1) : FarB te rb xb r1 w1 b := by
  have hlt := h.lt
  obtain ⟨h1, h2, h3, cs, z, h4⟩ := h
  exact ⟨h1, h2, ht.far hlt h3, cs, z, (ht.block b hlt h1 h2 h3).trans h4⟩
theorem PcAt.turn {te : TypeId} {rb xb : Nat} {r0 r1 : Option Nat} {w w1 : World} {a : Option Addr} {c : Nat} {bs : List UInt8} (h : PcAt te rb xb r0 w a c bs) (ht : TurnX rb xb r0 r1 w w1) : PcAt te rb xb r1 w1 a c bs := by
  obtain ⟨h1, h2, h3, h4⟩ := h
  refine ⟨h1, h2, fun j u hu => ?_, fun x hx => (h4 x hx).turn ht⟩
  obtain ⟨b, o, rfl, h5, h6⟩ := h3 j u hu
  have hf := h4 _ rfl
  refine ⟨b, o, rfl, Nat.lt_of_lt_of_le h5 ht.size, ?_⟩
  rw [← h6]
  have := ht.block b h5 hf.1 hf.2.1 hf.2.2.1
  simp only [World.cell?, this]
theorem blk_neT {w : World} {b b' : Nat} {vs vs' : List Value} {t t' : TypeId} (h : Blk w b vs t) (h' : Blk w b' vs' t') (ht : t ≠ t') : b ≠ b' := fun e => by
  subst e
  unfold Blk at h h'
  rw [h] at h'
  injection h' with h'
  injection h' with _ h2
  exact ht h2
theorem ExAt.xrb {tr te tx : TypeId} {base rb xb : Nat} {row : Option Nat} {size : Nat} {st ll : List UInt8} {w : World} (h : ExAt tr te tx base rb xb row size st ll w) : xb ≠ rb ∧ some xb ≠ row := by
  obtain ⟨la, lc, h1, _⟩ := h.ex
  obtain ⟨al, cl, last, tot, h2, h3, h4, _⟩ := h.ring.ex
  refine ⟨blk_neT h1 h2 h.ne2, ?_⟩
  rw [← h4]
  exact own_neT h3 h1 h.ne
/-- The ring turns; the literals stay. -/
theorem ExAt.turn {tr te tx : TypeId} {base rb xb : Nat} {r0 r1 : Option Nat} {size : Nat} {st st' ll : List UInt8} {w w1 : World} (h : ExAt tr te tx base rb xb r0 size st ll w) (hr : RgAt tr te base rb r1 size st' w1) (ht : Turned rb r0 r1 w w1) : ExAt tr te tx base rb xb r1 size st' ll w1 := by
  obtain ⟨la, lc, h1, h2⟩ := h.ex
  exact ⟨hr, ⟨la, lc, ht.blk h1 h.xrb.1 h.xrb.2, h2.turn (TurnX.of_turned xb ht)⟩, h.xb0, h.ne, h.ne2⟩
theorem ExAt.below {tr te tx : TypeId} {base rb xb : Nat} {r0 : Option Nat} {size : Nat} {st ll : List UInt8} {w w1 : World} (h : ExAt tr te tx base rb xb r0 size st ll w) (hb : Below w.heap.size w w1) : ExAt tr te tx base rb xb r0 size st ll w1 :=
  h.turn (h.ring.below hb) (Turned.of_below hb)
theorem cutA_block {la : Option Addr} {c l sz : Nat} {x : Addr} (h : cutA la c l sz = some x) : ∃ y, la = some y ∧ x.block = y.block := by
  unfold cutA at h
  split at h
  · exact ⟨x, h, rfl⟩
  · cases la with
    | none => cases h
    | some y =>
      simp only [Option.map_some, Option.some.injEq] at h
      subst h
      exact ⟨y, rfl, by unfold Addr.add; split <;> rfl⟩
theorem cutA_cells {w : World} {la : Option Addr} {bs : List UInt8} (h : CellsAt w la (bs.map bv)) (c l m : Nat) (hc : 0 < m → l < bs.length → l < c) : CellsAt w (cutA la c l 1) (((bs.drop l).take m).map bv) := by
  intro j u hu
  rw [List.map_take, List.getElem?_take] at hu
  split at hu
  · rw [List.map_drop, List.getElem?_drop] at hu
    obtain ⟨b, o, e, h1, h2⟩ := h _ _ hu
    have hj := (List.getElem?_eq_some_iff.1 hu).1
    rw [List.length_map] at hj
    subst e
    have := hc (by omega) (by omega)
    unfold cutA
    have hne : ¬ c = l := by omega
    rw [if_neg hne]
    refine ⟨b, o + l * 1, by rw [Option.map_some, Go.WideShapes.add_plain], h1, ?_⟩
    rw [Nat.mul_one, Nat.add_assoc]
    exact h2
  · cases hu
/-- The next literals taken off. -/
theorem ExAt.cut {tr te tx : TypeId} {base rb xb : Nat} {row : Option Nat} {size : Nat} {st ll : List UInt8} {w : World} (h : ExAt tr te tx base rb xb row size st ll w) (n : Nat) (hn : n ≤ ll.length) {la : Option Addr} {lc : Nat} (hx : Blk w xb [.pointer (some ⟨rb, 0, none⟩), .slice la ll.length lc] tx) (hp : PcAt te rb xb row w la lc ll) :
    ExAt tr te tx base rb xb row size st (ll.drop n) (w.setCell ⟨xb, 1, none⟩ (.slice (cutA la lc n 1) (ll.length - n) (lc - n))) := by
  obtain ⟨h1, h2, h3, h4⟩ := hp
  have hdl : (ll.drop n).length = ll.length - n := List.length_drop
  have hq : PcAt te rb xb row w (cutA la lc n 1) (lc - n) (ll.drop n) := by
    refine ⟨by omega, fun e => cutA_none h2 e, ?_, fun x hx => ?_⟩
    · have := cutA_cells h3 lc n (ll.drop n).length (fun _ _ => by omega)
      rwa [List.take_length] at this
    · obtain ⟨y, e1, e2⟩ := cutA_block hx
      rw [e2]
      exact h4 y e1
  refine ⟨h.ring.setCell ⟨xb, 1, none⟩ _ h.xrb.1 h.xrb.2, ⟨cutA la lc n 1, lc - n, ?_, hq.turn (TurnX.of_set row w 1 _)⟩, h.xb0, h.ne, h.ne2⟩
  rw [hdl]
  exact hx.set 1 _
end Go.Port
namespace Go.Proofs.YtlgablepckmogaaGreat
open Go.RowKit Go.Port
attribute [local go_sem] Oper.semAt_some
set_option maxRecDepth 100000 in
set_option maxHeartbeats 1000000 in
theorem xcheck_ok (l : List Sq) (a : Option Addr) (c : Nat) (size hav lits : Int) (w : World) (hl : l.length ≤ 1000000) (hc : CellsAt w a (l.flatMap sqc)) (h1 : 1 ≤ size) (h2 : size ≤ 134217728) (h3 : 0 ≤ hav) (h4 : hav ≤ size) (h5 : 0 ≤ lits) (h6 : lits ≤ 1000000)
    (hv : ∀ (k : Nat) s, l[k]? = some s → XIn ⟨s, (k : Int), size, hav, lits - litT (l.take k), 131072, endOf 0 (l.take k)⟩ ∧ XFit ⟨s, (k : Int), size, hav, lits - litT (l.take k), 131072, endOf 0 (l.take k)⟩) (he : lits - litT l ≤ 131072 - endOf 0 l) (he0 : 0 ≤ lits - litT l) (he1 : 0 ≤ endOf 0 l) :
    Calls Tryz.prog 50 #[.int .i64 size, .int .i64 hav, .int .i64 lits, .int .i64 131072, .slice a l.length c] w (RetV w (.tuple #[.int .i64 (endOf 0 l + (lits - litT l)), .int .i64 0])) := by
  have HC := hid (xchecked_ok l a c size hav lits w hl hc h1 h2 h3 h4 h5 h6 hv he he0 he1)
  clear hl hc h1 h2 h3 h4 h5 h6 hv he he0 he1
  go_enter Tryz.func50, Tryz.ntmps50
  go_wp2_with (go_at_call 72; refine HC.out.mono ?_; refine Hid.out ?_)
  refine hid ?_
  rintro e w1 ⟨rfl, hb1⟩
  have HB := hid hb1
  clear hb1
  dsimp only
  go_wp2
  go_ret2
  exact ⟨rfl, HB.out⟩
set_option maxRecDepth 100000 in
set_option maxHeartbeats 2000000 in
theorem xtakes_ok (base rb xb : Nat) (row : Option Nat) (size n : Nat) (st ll : List UInt8) (w : World) (h : ExAt 66 5 106 base rb xb row size st ll w) (hn : n ≤ ll.length) (hln : st.length + n ≤ 1000000) :
    Calls Tryz.prog 74 #[.pointer (some ⟨xb, 0, none⟩), .int .i64 (n : Int)] w fun e w' => ∃ a row', e = .returned (.slice a n n) ∧ ExAt 66 5 106 base rb xb row' size (st ++ ll.take n) (ll.drop n) w' ∧ PcAt 5 rb xb row' w' a n (ll.take n) ∧ TurnX rb xb row row' w w' := by
  obtain ⟨la, lc, hx, h1, h2, h3, h4⟩ := h.ex
  obtain ⟨hne1, hne2⟩ := h.xrb
  have c0 := hx.cell (k := 0) rfl
  have c1 := hx.cell (k := 1) rfl
  have z1 := hx.frozen 1
  have hlc : n ≤ lc := by omega
  have hcut1 : ∀ W, (Instr.slice 22 (.slice la ll.length lc) none (some (.int .i64 (n : Int))) (some (.int .i64 (n : Int)))).run Tryz.prog W = .ok (.slice (cutA la n 0 1) n n) W := fun W => cut_u8_hm la ll.length lc n hlc W
  have hcut2 : ∀ W, (Instr.slice 22 (.slice la ll.length lc) (some (.int .i64 (n : Int))) none none).run Tryz.prog W = .ok (.slice (cutA la lc n 1) (ll.length - n) (lc - n)) W := fun W => cut_u8_lo la ll.length lc n hn W
  have hdl : (ll.drop n).length = ll.length - n := List.length_drop
  have htl : (ll.take n).length = n := by rw [List.length_take]; omega
  have hP1 : PcAt 5 rb xb row w (cutA la n 0 1) n (ll.take n) := by
    refine ⟨by omega, fun e => ?_, ?_, fun x hx => ?_⟩
    · have := cutA_none (c := n) (fun e => by have := h2 e; omega) e
      omega
    · have := cutA_cells h3 n 0 n (fun e _ => e)
      rwa [List.drop_zero] at this
    · obtain ⟨y, e1, e2⟩ := cutA_block hx
      rw [e2]
      exact h4 y e1
  have hE1 := h.cut n hn hx ⟨h1, h2, h3, h4⟩
  have hP2 := hP1.turn (TurnX.of_set row w 1 (.slice (cutA la lc n 1) (ll.length - n) (lc - n)))
  obtain ⟨p1, p2, p3, p4⟩ := hP2
  have HAd := hid (rgadd_any base rb row size st (ll.take n) (cutA la n 0 1) n _ hE1.ring (by rw [htl]; exact hln) p1 p2 p3 (fun x hx => (p4 x hx).1))
  rw [htl] at HAd
  have d0 := (hx.set 1 (.slice (cutA la lc n 1) (ll.length - n) (lc - n))).cell (k := 0) rfl
  have HE1 := hid hE1
  have HP2 := hid (show PcAt 5 rb xb row _ (cutA la n 0 1) n (ll.take n) from ⟨p1, p2, p3, p4⟩)
  have HT1 := hid (TurnX.of_set (rb := rb) (xb := xb) row w 1 (.slice (cutA la lc n 1) (ll.length - n) (lc - n)))
  clear h hx h1 h2 h3 h4 hne1 hne2 hlc hP1 hE1 p1 p2 p3 p4 hdl htl
  go_enter Tryz.func74, Tryz.ntmps74
  go_upto_region 3 with fail
  generalize cutA la lc n 1 = a2 at *
  generalize cutA la n 0 1 = a1 at *
  generalize w.setCell ⟨xb, 1, none⟩ (.slice a2 (ll.length - n) (lc - n)) = w1 at *
  clear hcut1 hcut2 c0 c1 z1
  go_wp2_with (go_at_call 96; refine HAd.out.mono ?_; refine Hid.out ?_)
  refine hid ?_
  rintro e w2 ⟨rfl, row2, hR2, hT2⟩
  have HE2 := hid (HE1.out.turn hR2 hT2)
  have HX2 := hid (HT1.out.trans (TurnX.of_turned xb hT2))
  have HP3 := hid (HP2.out.turn (TurnX.of_turned xb hT2))
  clear hR2 hT2 HAd d0
  dsimp only
  go_wp2
  go_ret
  exact ⟨a1, row2, rfl, HE2.out, HP3.out, HX2.out⟩
end Go.Proofs.YtlgablepckmogaaGreat
