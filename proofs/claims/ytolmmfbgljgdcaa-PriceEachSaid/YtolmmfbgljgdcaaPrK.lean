/-
  Chapter 32's law on the iterator: what lies while the turns are run.
-/
import Derived.Test.YtolmmfbgljgdcaaPrJ
import Derived.Test.YtolmmfbgljgdcaaPrL
import Derived.Test.YtolmmfbgljgdcaaPrP
namespace Go.Port
open Go.RowKit
/-- A round has counted; what the round called has made blocks. -/
theorem ITc.roundB {α : Type} {wb W W1 : World} {t3 : TypeId} {many : Int} {first : Bool} {pre : List α} (h : ITc wb t3 many first pre W) (x : α) (T : TypeId → Bool) (hb : Below W.heap.size W W1) (u : Value) (hu : u = .int .i64 ((pre.length : Int) + 1)) :
    let W' := W1.setCell ⟨wb.heap.size, 0, none⟩ u
    KeepsT (fun k => k < wb.heap.size) (wb.heap.size + 1) T W W' ∧ Blk W' wb.heap.size [.int .i64 (((pre ++ [x]).length : Nat) : Int)] t3 ∧ Below wb.heap.size wb W' := by
  subst hu
  dsimp only
  have e1 : ((pre ++ [x]).length : Int) = (pre.length : Int) + 1 := by simp
  refine ⟨(KeepsT.low hb).trans (KeepsT.set _ ⟨wb.heap.size, 0, none⟩ _ (by simp) (by simp)), ?_, ?_⟩
  · rw [e1]
    exact (h.n.below hb h.n.lt).set 0 _
  · exact (h.low.trans (hb.mono h.low.size)).setCell (p := ⟨wb.heap.size, 0, none⟩) (Nat.le_refl _) _
/-- A row of n integers of the kind q at the head of the block G. -/
def OwnQ (W : World) (G n : Nat) (q : IntKind) (t : TypeId) : Prop := ∃ (us : List Int) (tl : List Value), us.length = n ∧ Blk W G (us.map (Value.int q) ++ tl) t
theorem OwnQ.at {W : World} {G n : Nat} {q : IntKind} {t : TypeId} (h : OwnQ W G n q t) {k : Nat} (hk : k < n) : ∃ x : Int, W.cell? ⟨G, k, none⟩ = some (.int q x) ∧ W.frozen? ⟨G, k, none⟩ = false ∧ ∀ y : Int, OwnQ (W.setCell ⟨G, k, none⟩ (.int q y)) G n q t := by
  obtain ⟨us, tl, hl, hb⟩ := h
  refine ⟨us[k]'(by omega), ?_, hb.frozen k, fun y => ⟨us.set k y, tl, by simp [hl], ?_⟩⟩
  · have := hb.cell (k := k) (u := .int q (us[k]'(by omega))) (by rw [List.getElem?_append_left (by simp; omega), List.getElem?_map, List.getElem?_eq_getElem (by omega)]; rfl)
    exact this
  · have := hb.set k (.int q y)
    rwa [List.set_append_left _ _ (by simp; omega), ← List.map_set] at this
end Go.Port
namespace Go.Proofs.Ytolmmfbgljgdcaa
open Go.RowKit Go.Port
/-- What lies while the turns are run. -/
structure EaS (w W : World) (a : Option Addr) (c : Nat) (bs : List UInt8) (many : Int) (N lb : Nat) (It : World → Prop) : Prop where
  box : Blk W (w.heap.size + 1) [.slice a bs.length c] 24
  mny : Blk W (w.heap.size + 1 + 1) [.int .i64 many] 3
  res : Blk W (w.heap.size + 1 + 1 + 1) [.bool false] 4
  low : Below w.heap.size w W
  data : Cs W a (bs.map bv)
  want : Blk W lb [.int .i64 (N : Int)] 3
  it : It W
theorem EaS.low' {w W W' : World} {a : Option Addr} {c : Nat} {bs : List UInt8} {many : Int} {N lb : Nat} {It : World → Prop} (hIt : ∀ U U', Below U.heap.size U U' → It U → It U') (h : EaS w W a c bs many N lb It) (hb : Below W.heap.size W W') : EaS w W' a c bs many N lb It :=
  ⟨h.box.below hb h.box.lt, h.mny.below hb h.mny.lt, h.res.below hb h.res.lt, h.low.trans (hb.mono h.low.size), h.data.low hb, h.want.below hb h.want.lt, hIt _ _ hb h.it⟩
/-- The reference's model and the iterator's blocks. -/
structure ItLive (A : Nat → Option Addr) (cp : Nat → Nat) (C : Nat → List Int) (bs : List UInt8) (M pb q1 q2 : Nat) (b : Option Addr) (cb : Nat) (W : World) : Prop where
  rf : RfAt W A cp C
  blk : Blk W pb [.slice (A 0) (C 0).length (cp 0), .slice (A 1) (C 1).length (cp 1), .slice (A 2) (C 2).length (cp 2), .slice (A 3) (C 3).length (cp 3)] 29
  pr : PrAt W M C
  b1 : Blk W q1 [.pointer (some ⟨M, 0, none⟩)] 27
  b2 : Blk W q2 [.slice b bs.length cb] 24
  cs : Cs W b (bs.map bv)
theorem ItLive.low {A : Nat → Option Addr} {cp : Nat → Nat} {C : Nat → List Int} {bs : List UInt8} {M pb q1 q2 : Nat} {b : Option Addr} {cb : Nat} (U U' : World) (hb : Below U.heap.size U U') (h : ItLive A cp C bs M pb q1 q2 b cb U) : ItLive A cp C bs M pb q1 q2 b cb U' :=
  ⟨h.rf.low hb, h.blk.below hb h.blk.lt, h.pr.low hb, h.b1.below hb h.b1.lt, h.b2.below hb h.b2.lt, h.cs.low hb⟩
def ItNone (q1 : Nat) (W : World) : Prop := Blk W q1 [.pointer none] 27
theorem ItNone.low {q1 : Nat} (U U' : World) (hb : Below U.heap.size U U') (h : ItNone q1 U) : ItNone q1 U' := Blk.below h hb h.lt
theorem Mid.cs {lo hi : Nat} {A A' : World} (h : Mid lo hi A A') {a : Option Addr} {cs : List Value} (hc : Cs A a cs) (hk : ∀ x, a = some x → cs ≠ [] → x.block < lo ∨ hi ≤ x.block) : Cs A' a cs := fun j u hu => by
  obtain ⟨b, o, e, h1, h2⟩ := hc j u hu
  have hne : cs ≠ [] := fun e => by rw [e] at hu; simp at hu
  have := hk _ e hne
  refine ⟨b, o, e, by rw [h.size]; exact h1, ?_⟩
  rw [World.cell?_of_block (h.same b this)]
  exact h2
theorem own_cs {W : World} {base n : Nat} {v : Value} {a : Option Addr} {c : Nat} {bs : List UInt8} (h : W.ownsRow base 5 1 v n (bs.map bv)) (hv : v = .slice a n c) (hn : bs.length = n) : bs.length ≤ c ∧ (a = none → c = 0) ∧ Cs W a (bs.map bv) ∧ ∀ x, a = some x → base ≤ x.block := by
  have ho := (Sl.of_owns h).open
  obtain ⟨a9, c9, e9, h1, _, h2, h3⟩ := ho
  rw [hv] at e9
  cases e9
  refine ⟨by omega, h2, h3, fun x hx => ?_⟩
  subst hx
  rcases h.2 with ⟨e, _⟩ | ⟨g, cap, cur, e, hb, _⟩
  · rw [hv] at e; cases e
  · rw [hv] at e
    cases e
    exact hb
theorem own_q {W : World} {base n : Nat} {v : Value} {a : Option Addr} {c : Nat} {bs : List UInt8} (h : W.ownsRow base 5 1 v n (bs.map bv)) (hv : v = .slice a n c) (hn : bs.length = n) (h0 : 0 < n) : ∃ G, a = some ⟨G, 0, none⟩ ∧ base ≤ G ∧ OwnQ W G n .u8 5 := by
  obtain ⟨g, cap, cs, e, hb, h1, h2, hblk, ht⟩ := own_blk h h0
  rw [hv] at e
  cases e
  refine ⟨g, rfl, hb, bs.map (fun b => (b.toNat : Int)), cs.drop (n * 1), by rw [List.length_map]; exact hn, ?_⟩
  have e : (bs.map (fun b => (b.toNat : Int))).map (Value.int .u8) = bs.map bv := by rw [List.map_map]; rfl
  rw [e, ← ht, List.take_append_drop]
  exact hblk
end Go.Proofs.Ytolmmfbgljgdcaa
