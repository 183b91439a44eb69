/-
  The walks of layer 32 (price): the reference's model of a plan.
-/
import Derived.Test.YtiagbejfghincaaGreatY41
import Derived.Test.YtiagbejfghincaaGreatY42
import Derived.Test.YtiagbejfghincaaGreatY22
import Derived.Test.YtiagbejfghincaaGreatY17
import Derived.Test.YtiagbejfghincaaGreatY21
import Derived.Deep.Slices
import Derived.ChangeSame
namespace Go.Proofs.YtiagbejfghincaaGreat
open Go.RowKit Go.Port
/-- A row of n integers of the call's own. -/
def RRow (B n : Nat) (vs : List Value) (x : Value) (W : World) : Prop := ∃ b, x = .slice (some ⟨b, 0, none⟩) n n ∧ B ≤ b ∧ Blk W b vs 3
theorem RRow.low {B n : Nat} {vs : List Value} {x : Value} {W W' : World} (h : RRow B n vs x W) (hb : Below W.heap.size W W') : RRow B n vs x W' := let ⟨b, h1, h2, h3⟩ := h; ⟨b, h1, h2, h3.below hb h3.lt⟩
theorem RRow.lt {B n : Nat} {vs : List Value} {x : Value} {W : World} (h : RRow B n vs x W) : ∀ k, x.ownBlock = some k → k < W.heap.size := by
  obtain ⟨b, rfl, _, h3⟩ := h
  intro k e
  cases e
  exact h3.lt
theorem RRow.new {B n : Nat} (W : World) (hB : B ≤ W.heap.size) : RRow B n (List.replicate n (iv 0)) (.slice (some ⟨W.heap.size, 0, none⟩) n n) (W.alloc (.cells (List.replicate n (iv 0)).toArray 3)) := ⟨_, rfl, hB, Blk.new W _ _⟩
theorem RRow.store {B n b k : Nat} {x u : Value} {W : World} {vs ws : List Value} (h : RRow B n ws x W) (hb : Blk W b vs 24) : RRow B n ws x (W.setCell ⟨b, k, none⟩ u) := by
  obtain ⟨g, h1, h2, h3⟩ := h
  exact ⟨g, h1, h2, h3.other u (fun e => (blk_ne hb h3 (by decide)) e)⟩
theorem blk_len_ne {w : World} {b b' : Nat} {vs vs' : List Value} {t t' : TypeId} (h : Blk w b vs t) (h' : Blk w b' vs' t') (hl : vs.length ≠ vs'.length) : b ≠ b' := by
  rintro rfl
  unfold Blk at h h'
  rw [h] at h'
  simp only [Option.some.injEq, Obj.cells.injEq] at h'
  exact hl (by rw [← List.size_toArray, ← List.size_toArray, h'.1])
/-- The four histograms. -/
structure RFour (B : Nat) (lb : List UInt8) (x1 x2 x3 x4 : Value) (W : World) : Prop where
  r1 : RRow 0 256 ((histS lb).map iv) x1 W
  r2 : RRow B 44 (List.replicate 44 (iv 0)) x2 W
  r3 : RRow B 28 (List.replicate 28 (iv 0)) x3 W
  r4 : RRow B 44 (List.replicate 44 (iv 0)) x4 W
  n23 : x2.ownBlock ≠ x3.ownBlock
  n24 : x2.ownBlock ≠ x4.ownBlock
  n34 : x3.ownBlock ≠ x4.ownBlock
theorem RFour.low {B : Nat} {lb : List UInt8} {x1 x2 x3 x4 : Value} {W W' : World} (h : RFour B lb x1 x2 x3 x4 W) (hb : Below W.heap.size W W') : RFour B lb x1 x2 x3 x4 W' :=
  ⟨h.r1.low hb, h.r2.low hb, h.r3.low hb, h.r4.low hb, h.n23, h.n24, h.n34⟩
theorem RFour.store4 {B b : Nat} {lb : List UInt8} {x1 x2 x3 x4 : Value} {W : World} {vs : List Value} (h : RFour B lb x1 x2 x3 x4 W) (hb : Blk W b vs 24) (u0 u1 u2 u3 : Value) : RFour B lb x1 x2 x3 x4 ((((W.setCell ⟨b, 0, none⟩ u0).setCell ⟨b, 1, none⟩ u1).setCell ⟨b, 2, none⟩ u2).setCell ⟨b, 3, none⟩ u3) := by
  have b1 := hb.set 0 u0
  have b2 := b1.set 1 u1
  have b3 := b2.set 2 u2
  exact ⟨(((h.r1.store hb).store b1).store b2).store b3, (((h.r2.store hb).store b1).store b2).store b3, (((h.r3.store hb).store b1).store b2).store b3, (((h.r4.store hb).store b1).store b2).store b3, h.n23, h.n24, h.n34⟩
theorem RFour.forms {B : Nat} {lb : List UInt8} {x1 x2 x3 x4 : Value} {W : World} (h : RFour B lb x1 x2 x3 x4 W) : (∃ g, x1 = .slice (some ⟨g, 0, none⟩) 256 256) ∧ (∃ g, x2 = .slice (some ⟨g, 0, none⟩) 44 44) ∧ (∃ g, x3 = .slice (some ⟨g, 0, none⟩) 28 28) ∧ (∃ g, x4 = .slice (some ⟨g, 0, none⟩) 44 44) := by
  obtain ⟨g1, e1, _⟩ := h.r1
  obtain ⟨g2, e2, _⟩ := h.r2
  obtain ⟨g3, e3, _⟩ := h.r3
  obtain ⟨g4, e4, _⟩ := h.r4
  exact ⟨⟨_, e1⟩, ⟨_, e2⟩, ⟨_, e3⟩, ⟨_, e4⟩⟩
/-- Where the region stands that makes the four. -/
structure RfI (w0 : World) (lb : List UInt8) (b1 b2 b3 b4 b5 b6 b7 : Bool) (x1 x2 x3 x4 v5 v8 : Value) (W : World) : Prop where
  low : Below w0.heap.size w0 W
  f1 : b1 = true → RRow 0 256 ((histS lb).map iv) x1 W
  f2 : b2 = true → RRow w0.heap.size 44 (List.replicate 44 (iv 0)) x2 W
  f3 : b3 = true → RRow w0.heap.size 28 (List.replicate 28 (iv 0)) x3 W
  f4 : b4 = true → RRow w0.heap.size 44 (List.replicate 44 (iv 0)) x4 W
  n23 : b2 = true → b3 = true → x2.ownBlock ≠ x3.ownBlock
  n24 : b2 = true → b4 = true → x2.ownBlock ≠ x4.ownBlock
  n34 : b3 = true → b4 = true → x3.ownBlock ≠ x4.ownBlock
  f5 : b5 = true → ∃ y1 y2 y3 y4, v5 = .agg #[y1, y2, y3, y4] ∧ RFour w0.heap.size lb y1 y2 y3 y4 W
  f8 : b6 = true → b7 = false → ∃ b, v8 = .pointer (some ⟨b, 0, none⟩) ∧ w0.heap.size ≤ b ∧ Blk W b [.slice none 0 0, .slice none 0 0, .slice none 0 0, .slice none 0 0] 24
section
variable {w0 : World} {lb : List UInt8} {b1 b2 b3 b4 b5 b6 b7 : Bool} {x1 x2 x3 x4 v5 v8 : Value} {W W' : World}
theorem RfI.grow (h : RfI w0 lb b1 b2 b3 b4 b5 b6 b7 x1 x2 x3 x4 v5 v8 W) (hb : Below W.heap.size W W') : RfI w0 lb b1 b2 b3 b4 b5 b6 b7 x1 x2 x3 x4 v5 v8 W' :=
  ⟨h.low.trans (hb.mono h.low.size), fun e => (h.f1 e).low hb, fun e => (h.f2 e).low hb, fun e => (h.f3 e).low hb, fun e => (h.f4 e).low hb, h.n23, h.n24, h.n34,
    fun e => let ⟨y1, y2, y3, y4, h1, h2⟩ := h.f5 e; ⟨y1, y2, y3, y4, h1, h2.low hb⟩, fun e e2 => let ⟨b, h1, h2, h3⟩ := h.f8 e e2; ⟨b, h1, h2, h3.below hb h3.lt⟩⟩
theorem RfI.did1 (h : RfI w0 lb b1 b2 b3 b4 b5 b6 b7 x1 x2 x3 x4 v5 v8 W) (hb : Below W.heap.size W W') {g : Nat} (hk : Blk W' g ((histS lb).map iv) 3) : RfI w0 lb true b2 b3 b4 b5 b6 b7 (.slice (some ⟨g, 0, none⟩) 256 256) x2 x3 x4 v5 v8 W' :=
  { h.grow hb with f1 := fun _ => ⟨g, rfl, Nat.zero_le _, hk⟩ }
theorem RfI.did2 (h : RfI w0 lb b1 b2 b3 b4 b5 b6 b7 x1 x2 x3 x4 v5 v8 W) : RfI w0 lb b1 true b3 b4 b5 b6 b7 x1 (.slice (some ⟨W.heap.size, 0, none⟩) 44 44) x3 x4 v5 v8 (W.alloc (.cells (List.replicate 44 (iv 0)).toArray 3)) :=
  { h.grow (below_new W _) with f2 := fun _ => RRow.new W h.low.size, n23 := fun _ e => Ne.symm (ne_new (h.f3 e).lt 44), n24 := fun _ e => Ne.symm (ne_new (h.f4 e).lt 44) }
theorem RfI.did3 (h : RfI w0 lb b1 b2 b3 b4 b5 b6 b7 x1 x2 x3 x4 v5 v8 W) : RfI w0 lb b1 b2 true b4 b5 b6 b7 x1 x2 (.slice (some ⟨W.heap.size, 0, none⟩) 28 28) x4 v5 v8 (W.alloc (.cells (List.replicate 28 (iv 0)).toArray 3)) :=
  { h.grow (below_new W _) with f3 := fun _ => RRow.new W h.low.size, n23 := fun e _ => ne_new (h.f2 e).lt 28, n34 := fun _ e => Ne.symm (ne_new (h.f4 e).lt 28) }
theorem RfI.did4 (h : RfI w0 lb b1 b2 b3 b4 b5 b6 b7 x1 x2 x3 x4 v5 v8 W) : RfI w0 lb b1 b2 b3 true b5 b6 b7 x1 x2 x3 (.slice (some ⟨W.heap.size, 0, none⟩) 44 44) v5 v8 (W.alloc (.cells (List.replicate 44 (iv 0)).toArray 3)) :=
  { h.grow (below_new W _) with f4 := fun _ => RRow.new W h.low.size, n24 := fun e _ => ne_new (h.f2 e).lt 44, n34 := fun e _ => ne_new (h.f3 e).lt 44 }
theorem RfI.did5 (h : RfI w0 lb b1 b2 b3 b4 b5 b6 b7 x1 x2 x3 x4 v5 v8 W) (e1 : b1 = true) (e2 : b2 = true) (e3 : b3 = true) (e4 : b4 = true) : RfI w0 lb b1 b2 b3 b4 true b6 b7 x1 x2 x3 x4 (.agg #[x1, x2, x3, x4]) v8 W :=
  { h with f5 := fun _ => ⟨_, _, _, _, rfl, h.f1 e1, h.f2 e2, h.f3 e3, h.f4 e4, h.n23 e2 e3, h.n24 e2 e4, h.n34 e3 e4⟩ }
theorem RfI.did6 (h : RfI w0 lb b1 b2 b3 b4 b5 b6 b7 x1 x2 x3 x4 v5 v8 W) : RfI w0 lb b1 b2 b3 b4 b5 true b7 x1 x2 x3 x4 v5 (.pointer (some ⟨W.heap.size, 0, none⟩)) (W.alloc (.cells #[.slice none 0 0, .slice none 0 0, .slice none 0 0, .slice none 0 0] 24)) :=
  { h.grow (below_new W _) with f8 := fun _ _ => ⟨_, rfl, h.low.size, Blk.new W [.slice none 0 0, .slice none 0 0, .slice none 0 0, .slice none 0 0] _⟩ }
end
/-- While the sequences are counted. -/
structure RfS (w : World) (lb : List UInt8) (b g1 g2 g3 g4 : Nat) (c1 c2 c3 : List Int) (W : World) : Prop where
  four : Blk W b [.slice (some ⟨g1, 0, none⟩) 256 256, .slice (some ⟨g2, 0, none⟩) 44 44, .slice (some ⟨g3, 0, none⟩) 28 28, .slice (some ⟨g4, 0, none⟩) 44 44] 24
  hist : Blk W g1 ((histS lb).map iv) 3
  r1 : Blk W g2 (c1.map iv) 3
  r2 : Blk W g3 (c2.map iv) 3
  r3 : Blk W g4 (c3.map iv) 3
  p : Blk W w.heap.size [.slice none 0 0, .slice none 0 0, .slice none 0 0, .slice none 0 0] 32
  low : Below w.heap.size w W
  n12 : g1 ≠ g2
  n13 : g1 ≠ g3
  n14 : g1 ≠ g4
  n23 : g2 ≠ g3
  n24 : g2 ≠ g4
  n34 : g3 ≠ g4
  l1 : w.heap.size ≤ g2
  l2 : w.heap.size ≤ g3
  l3 : w.heap.size ≤ g4
section
variable {w : World} {lb : List UInt8} {b g1 g2 g3 g4 : Nat} {c1 c2 c3 : List Int} {W W' : World}
theorem RfS.grow (h : RfS w lb b g1 g2 g3 g4 c1 c2 c3 W) (hb : Below W.heap.size W W') : RfS w lb b g1 g2 g3 g4 c1 c2 c3 W' :=
  ⟨h.four.below hb h.four.lt, h.hist.below hb h.hist.lt, h.r1.below hb h.r1.lt, h.r2.below hb h.r2.lt, h.r3.below hb h.r3.lt, h.p.below hb h.p.lt, h.low.trans (hb.mono h.low.size), h.n12, h.n13, h.n14, h.n23, h.n24, h.n34, h.l1, h.l2, h.l3⟩
theorem RfS.b1 (h : RfS w lb b g1 g2 g3 g4 c1 c2 c3 W) {i : Nat} {x : Int} (hx : c1[i]? = some x) : RfS w lb b g1 g2 g3 g4 (bumpK c1 i) c2 c3 (W.setCell ⟨g2, i, none⟩ (.int .i64 (x + 1))) :=
  ⟨h.four.other _ (blk_ne h.r1 h.four (by decide)), h.hist.other _ (Ne.symm h.n12), by rw [bumpK_at hx]; exact h.r1.set i _, h.r2.other _ h.n23, h.r3.other _ h.n24, h.p.other _ (blk_ne h.r1 h.p (by decide)), h.low.setCell (p := ⟨g2, i, none⟩) h.l1 _, h.n12, h.n13, h.n14, h.n23, h.n24, h.n34, h.l1, h.l2, h.l3⟩
theorem RfS.b2 (h : RfS w lb b g1 g2 g3 g4 c1 c2 c3 W) {i : Nat} {x : Int} (hx : c2[i]? = some x) : RfS w lb b g1 g2 g3 g4 c1 (bumpK c2 i) c3 (W.setCell ⟨g3, i, none⟩ (.int .i64 (x + 1))) :=
  ⟨h.four.other _ (blk_ne h.r2 h.four (by decide)), h.hist.other _ (Ne.symm h.n13), h.r1.other _ (Ne.symm h.n23), by rw [bumpK_at hx]; exact h.r2.set i _, h.r3.other _ h.n34, h.p.other _ (blk_ne h.r2 h.p (by decide)), h.low.setCell (p := ⟨g3, i, none⟩) h.l2 _, h.n12, h.n13, h.n14, h.n23, h.n24, h.n34, h.l1, h.l2, h.l3⟩
theorem RfS.b3 (h : RfS w lb b g1 g2 g3 g4 c1 c2 c3 W) {i : Nat} {x : Int} (hx : c3[i]? = some x) : RfS w lb b g1 g2 g3 g4 c1 c2 (bumpK c3 i) (W.setCell ⟨g4, i, none⟩ (.int .i64 (x + 1))) :=
  ⟨h.four.other _ (blk_ne h.r3 h.four (by decide)), h.hist.other _ (Ne.symm h.n14), h.r1.other _ (Ne.symm h.n24), h.r2.other _ (Ne.symm h.n34), by rw [bumpK_at hx]; exact h.r3.set i _, h.p.other _ (blk_ne h.r3 h.p (by decide)), h.low.setCell (p := ⟨g4, i, none⟩) h.l3 _, h.n12, h.n13, h.n14, h.n23, h.n24, h.n34, h.l1, h.l2, h.l3⟩
end
theorem blk_four {W : World} {b g : Nat} {vs ws : List Value} {t t' : TypeId} (h : Blk W b vs t) (h' : Blk W g ws t') (ht : t ≠ t') (u0 u1 u2 u3 : Value) : Blk ((((W.setCell ⟨b, 0, none⟩ u0).setCell ⟨b, 1, none⟩ u1).setCell ⟨b, 2, none⟩ u2).setCell ⟨b, 3, none⟩ u3) g ws t' :=
  have e := blk_ne h h' ht
  (((h'.other u0 e).other u1 e).other u2 e).other u3 e
set_option maxRecDepth 100000 in
set_option maxHeartbeats 8000000 in
theorem rof_ok (w : World) (a : Option Addr) (cl : Nat) (l : List Sq) (ad : Option Addr) (c : Nat) (bs : List UInt8) (h : PdAt w a cl l ad c bs) (hp : plitsO bs l = true) (ho : ∀ s ∈ l, offOk s = true) :
    Calls Tryz.prog 29 #[.slice ad bs.length c, .slice a l.length cl] w (fun e w' => ∃ A cp, e = .returned (.tuple #[fourV A cp (planC bs l), .int .i64 0]) ∧ RfAt w' A cp (planC bs l) ∧ Below w.heap.size w w') := by
  have HP1 := hid (Blk.new w [.slice none 0 0, .slice none 0 0, .slice none 0 0, .slice none 0 0] 32)
  have HBl := hid (below_new w (.cells #[.slice none 0 0, .slice none 0 0, .slice none 0 0, .slice none 0 0] 32))
  have hmk44 : ∀ W : World, (Instr.makeSlice 23 (.int .i64 44) (.int .i64 44)).run Tryz.prog W = .ok (.slice (some ⟨W.heap.size, 0, none⟩) 44 44) (W.alloc (.cells (List.replicate 44 (iv 0)).toArray 3)) := fun W => by
    rw [← show madeCells #[Value.int .i64 0] 44 = (List.replicate 44 (iv 0)).toArray from by kernel_rfl]
    exact run_make_row' (P := Tryz.prog) 23 3 (.int .i64 0) 8 Tryz.underlying23 Tryz.info_intN rfl .i64 .i64 44 (by decide) (by decide) W
  have hmk28 : ∀ W : World, (Instr.makeSlice 23 (.int .i64 28) (.int .i64 28)).run Tryz.prog W = .ok (.slice (some ⟨W.heap.size, 0, none⟩) 28 28) (W.alloc (.cells (List.replicate 28 (iv 0)).toArray 3)) := fun W => by
    rw [← show madeCells #[Value.int .i64 0] 28 = (List.replicate 28 (iv 0)).toArray from by kernel_rfl]
    exact run_make_row' (P := Tryz.prog) 23 3 (.int .i64 0) 8 Tryz.underlying23 Tryz.info_intN rfl .i64 .i64 28 (by decide) (by decide) W
  obtain ⟨nE, hnE, hnE2⟩ : ∃ n, planEnd 0 l = some n ∧ n ≤ bs.length := by
    unfold plitsO at hp
    cases e : planEnd 0 l with
    | none => rw [e] at hp; cases hp
    | some n => rw [e] at hp; exact ⟨n, rfl, by simpa using hp⟩
  have HL := hid (rlits22_ok l a cl ad c bs _ (h.low HBl.out) nE hnE hnE2)
  have hlm : (litsS bs l).length ≤ maxLen := by
    have h1 := litsS_len hnE hnE2
    have h2 := h.small
    unfold maxLen
    omega
  have HLm := hid hlm
  have HPn := hid hnE
  have HH := hid h
  have HOf := hid ho
  have hs := h.small
  have hsI : (bs.length : Int) ≤ 131072 := by omega
  obtain ⟨lb, hlb⟩ : ∃ lb, lb = litsS bs l := ⟨_, rfl⟩
  rw [← hlb] at HL HLm
  have HLb := hid hlb
  clear h hp hlm hnE hnE2 ho hs hlb
  go_enter Tryz.func29, Tryz.ntmps29
  go_wp2_with fail
  generalize w.alloc (.cells #[.slice none 0 0, .slice none 0 0, .slice none 0 0, .slice none 0 0] 32) = wB at *
  refine HL.out.mono ?_
  rintro e w1 ⟨v, rfl, hown, hb⟩
  obtain ⟨a6, c6, rfl⟩ := own_slice hown
  have hcu := (Sl.of_owns hown).open
  obtain ⟨a9, c9, e9, _, _, _, hcs9⟩ := hcu
  cases e9
  have HCs := hid (show Cs w1 a6 (lb.map bv) from hcs9)
  have HP2 := hid (HP1.out.below hb HP1.out.lt)
  have HB2 := hid (HBl.out.trans (hb.mono HBl.out.size))
  clear hown hb hcs9 HL HP1 HBl
  go_upto_region 4 with fail
  have HI0 := hid (show RfI w1 lb false false false false false false false undef undef undef undef undef undef w1.drew from
    ⟨(Below.refl _ _).drew, fun h => (by cases h), fun h => (by cases h), fun h => (by cases h), fun h => (by cases h), fun h => (by cases h), fun h => (by cases h), fun h => (by cases h), fun h => (by cases h), fun h => (by cases h)⟩)
  refine wp_region_noPanic ?_
  refine wp_region_any (by kernel_rfl) ?_
  refine wpAny_take (i := 0) (v := .slice a6 lb.length c6) (by simp only [List.getElem?_toArray, List.getElem?_cons_zero]; rfl) (by kernel_rfl) (by kernel_rfl) (by kernel_rfl) (fun _ _ _ h => h) (Or.inl ⟨by rfl, fun W => by go_simp⟩) ?_
  simp only [Act.put, List.setIfInBounds_toArray, List.set_cons_zero, List.set_cons_succ]
  refine wpAny_inv (by kernel_rfl) (fun L a0 W => (L.getD 7 false = false ∧ L.getD 0 true = true ∧ ∃ x1 x2 x3 x4 v5 v8, a0 = { tmps := #[.slice ad bs.length c, .slice a l.length cl, undef, undef, .pointer (some ⟨w.heap.size, 0, none⟩), .int .i64 0, .slice a6 lb.length c6, .int .i64 0, v8, undef, undef, undef, undef, undef, undef, undef, undef, undef, undef, .tuple #[.slice a6 lb.length c6, .int .i64 0], .slice a l.length cl, .slice ad bs.length c, .tuple #[.slice a6 lb.length c6, .int .i64 0], .slice a6 lb.length c6, .int .i64 0, .slice ad bs.length c, .int .i64 (bs.length : Int), .bool (decide (131072 < (bs.length : Int))), .bool (decide (131072 < (bs.length : Int))), .int .i64 0, .bool false, .bool (decide (131072 < (bs.length : Int))), undef, .slice a6 lb.length c6, x1, x2, x3, x4, v5, undef, undef, undef, undef, undef, undef, undef, undef, undef, undef, undef, undef, undef, undef, undef, undef, undef, undef, undef, undef, undef, undef, undef, undef, undef, undef, undef, undef, undef, undef, undef, undef, undef, undef, undef, undef, undef, undef, undef, undef, undef, undef, undef, undef, undef, undef, undef, undef, undef, undef, undef, undef, undef, undef, undef, undef, undef, undef, undef, undef, undef, undef, undef, undef, undef, undef, undef, undef, undef, undef, undef, undef, undef, undef, undef, undef], defers := [] } ∧ RfI w1 lb (L.getD 1 false) (L.getD 2 false) (L.getD 3 false) (L.getD 4 false) (L.getD 5 false) (L.getD 6 false) false x1 x2 x3 x4 v5 v8 W) ∨ ((∀ i, L.getD i true = true) ∧ ∃ x1 x2 x3 x4 v5 b y1 y2 y3 y4, a0 = { tmps := #[.slice ad bs.length c, .slice a l.length cl, undef, undef, .pointer (some ⟨w.heap.size, 0, none⟩), .int .i64 0, .slice a6 lb.length c6, .int .i64 0, .pointer (some ⟨b, 0, none⟩), undef, undef, undef, undef, undef, undef, undef, undef, undef, undef, .tuple #[.slice a6 lb.length c6, .int .i64 0], .slice a l.length cl, .slice ad bs.length c, .tuple #[.slice a6 lb.length c6, .int .i64 0], .slice a6 lb.length c6, .int .i64 0, .slice ad bs.length c, .int .i64 (bs.length : Int), .bool (decide (131072 < (bs.length : Int))), .bool (decide (131072 < (bs.length : Int))), .int .i64 0, .bool false, .bool (decide (131072 < (bs.length : Int))), undef, .slice a6 lb.length c6, x1, x2, x3, x4, v5, undef, undef, undef, undef, undef, undef, undef, undef, undef, undef, undef, undef, undef, undef, undef, undef, undef, undef, undef, undef, undef, undef, undef, undef, undef, undef, undef, undef, undef, undef, undef, undef, undef, undef, undef, undef, undef, undef, undef, undef, undef, undef, undef, undef, undef, undef, undef, undef, undef, undef, undef, undef, undef, undef, undef, undef, undef, undef, undef, undef, undef, undef, undef, undef, undef, undef, undef, undef, undef, undef, undef, undef, undef, undef, undef, undef], defers := [] } ∧ Below w1.heap.size w1 W ∧ w1.heap.size ≤ b ∧ Blk W b [y1, y2, y3, y4] 24 ∧ RFour w1.heap.size lb y1 y2 y3 y4 W)) ?_ ?_ _ _ _ _ (by rfl) (.inl ⟨rfl, rfl, _, _, _, _, _, _, rfl, HI0.out⟩) (by decide)
  · intro i o ho listed a' W hs hinv hnl hd K hK
    rcases hinv with ⟨hl7, h0, x1, x2, x3, x4, v5, v8, rfl, hI⟩ | ⟨hall, _⟩
    rotate_left
    · rw [hall i] at hnl; cases hnl
    rcases i with _ | _ | _ | _ | _ | _ | _ | _ | i
    · rw [h0] at hnl; cases hnl
    · simp only [List.getElem?_toArray, List.getElem?_cons_zero, List.getElem?_cons_succ, Option.some.injEq, Nat.zero_add] at ho
      subst ho
      rw [if_pos (by rfl)]
      go_simp
      go_at_call 61
      refine (rcounts_any a6 lb.length c6 lb W rfl HLm.out (HCs.out.low hI.low)).mono ?_
      rintro e W' ⟨v, rfl, g, rfl, hbk, hb⟩
      refine hK _ _ (.inl ⟨(by rw [getD_set_ne' false (by decide)]; exact hl7), (by rw [getD_set_ne' true (by decide)]; exact h0), .slice (some ⟨g, 0, none⟩) 256 256, x2, x3, x4, v5, v8, rfl, ?_⟩)
      rw [getD_set_eq false (show 1 < listed.size by rw [hs]; decide), getD_set_ne' false (show 1 ≠ 2 by decide), getD_set_ne' false (show 1 ≠ 3 by decide), getD_set_ne' false (show 1 ≠ 4 by decide), getD_set_ne' false (show 1 ≠ 5 by decide), getD_set_ne' false (show 1 ≠ 6 by decide)]
      exact hI.did1 hb hbk
    · simp only [List.getElem?_toArray, List.getElem?_cons_zero, List.getElem?_cons_succ, Option.some.injEq, Nat.zero_add, Nat.reduceAdd] at ho
      subst ho
      rw [if_pos (by rfl)]
      go_simp
      refine hK _ _ (.inl ⟨(by rw [getD_set_ne' false (by decide)]; exact hl7), (by rw [getD_set_ne' true (by decide)]; exact h0), x1, .slice (some ⟨W.heap.size, 0, none⟩) 44 44, x3, x4, v5, v8, rfl, ?_⟩)
      rw [getD_set_eq false (show 2 < listed.size by rw [hs]; decide), getD_set_ne' false (show 2 ≠ 1 by decide), getD_set_ne' false (show 2 ≠ 3 by decide), getD_set_ne' false (show 2 ≠ 4 by decide), getD_set_ne' false (show 2 ≠ 5 by decide), getD_set_ne' false (show 2 ≠ 6 by decide)]
      exact hI.did2
    · simp only [List.getElem?_toArray, List.getElem?_cons_zero, List.getElem?_cons_succ, Option.some.injEq, Nat.zero_add, Nat.reduceAdd] at ho
      subst ho
      rw [if_pos (by rfl)]
      go_simp
      refine hK _ _ (.inl ⟨(by rw [getD_set_ne' false (by decide)]; exact hl7), (by rw [getD_set_ne' true (by decide)]; exact h0), x1, x2, .slice (some ⟨W.heap.size, 0, none⟩) 28 28, x4, v5, v8, rfl, ?_⟩)
      rw [getD_set_eq false (show 3 < listed.size by rw [hs]; decide), getD_set_ne' false (show 3 ≠ 1 by decide), getD_set_ne' false (show 3 ≠ 2 by decide), getD_set_ne' false (show 3 ≠ 4 by decide), getD_set_ne' false (show 3 ≠ 5 by decide), getD_set_ne' false (show 3 ≠ 6 by decide)]
      exact hI.did3
    · simp only [List.getElem?_toArray, List.getElem?_cons_zero, List.getElem?_cons_succ, Option.some.injEq, Nat.zero_add, Nat.reduceAdd] at ho
      subst ho
      rw [if_pos (by rfl)]
      go_simp
      refine hK _ _ (.inl ⟨(by rw [getD_set_ne' false (by decide)]; exact hl7), (by rw [getD_set_ne' true (by decide)]; exact h0), x1, x2, x3, .slice (some ⟨W.heap.size, 0, none⟩) 44 44, v5, v8, rfl, ?_⟩)
      rw [getD_set_eq false (show 4 < listed.size by rw [hs]; decide), getD_set_ne' false (show 4 ≠ 1 by decide), getD_set_ne' false (show 4 ≠ 2 by decide), getD_set_ne' false (show 4 ≠ 3 by decide), getD_set_ne' false (show 4 ≠ 5 by decide), getD_set_ne' false (show 4 ≠ 6 by decide)]
      exact hI.did4
    · simp only [List.getElem?_toArray, List.getElem?_cons_zero, List.getElem?_cons_succ, Option.some.injEq, Nat.zero_add, Nat.reduceAdd] at ho
      subst ho
      have d1 := hd { on := 1, ground := .data } (by simp) (by rfl)
      have d2 := hd { on := 2, ground := .data } (by simp) (by rfl)
      have d3 := hd { on := 3, ground := .data } (by simp) (by rfl)
      have d4 := hd { on := 4, ground := .data } (by simp) (by rfl)
      obtain ⟨g1, e1, _⟩ := hI.f1 d1
      obtain ⟨g2, e2, _⟩ := hI.f2 d2
      obtain ⟨g3, e3, _⟩ := hI.f3 d3
      obtain ⟨g4, e4, _⟩ := hI.f4 d4
      subst e1 e2 e3 e4
      rw [if_pos (by rfl)]
      go_simp
      refine hK _ _ (.inl ⟨(by rw [getD_set_ne' false (by decide)]; exact hl7), (by rw [getD_set_ne' true (by decide)]; exact h0), .slice (some ⟨g1, 0, none⟩) 256 256, .slice (some ⟨g2, 0, none⟩) 44 44, .slice (some ⟨g3, 0, none⟩) 28 28, .slice (some ⟨g4, 0, none⟩) 44 44, .agg #[.slice (some ⟨g1, 0, none⟩) 256 256, .slice (some ⟨g2, 0, none⟩) 44 44, .slice (some ⟨g3, 0, none⟩) 28 28, .slice (some ⟨g4, 0, none⟩) 44 44], v8, rfl, ?_⟩)
      rw [getD_set_eq false (show 5 < listed.size by rw [hs]; decide), getD_set_ne' false (show 5 ≠ 1 by decide), getD_set_ne' false (show 5 ≠ 2 by decide), getD_set_ne' false (show 5 ≠ 3 by decide), getD_set_ne' false (show 5 ≠ 4 by decide), getD_set_ne' false (show 5 ≠ 6 by decide)]
      exact hI.did5 d1 d2 d3 d4
    · simp only [List.getElem?_toArray, List.getElem?_cons_zero, List.getElem?_cons_succ, Option.some.injEq, Nat.zero_add, Nat.reduceAdd] at ho
      subst ho
      rw [if_pos (by rfl)]
      go_simp
      refine hK _ _ (.inl ⟨(by rw [getD_set_ne' false (by decide)]; exact hl7), (by rw [getD_set_ne' true (by decide)]; exact h0), x1, x2, x3, x4, v5, .pointer (some ⟨W.heap.size, 0, none⟩), rfl, ?_⟩)
      rw [getD_set_eq false (show 6 < listed.size by rw [hs]; decide), getD_set_ne' false (show 6 ≠ 1 by decide), getD_set_ne' false (show 6 ≠ 2 by decide), getD_set_ne' false (show 6 ≠ 3 by decide), getD_set_ne' false (show 6 ≠ 4 by decide), getD_set_ne' false (show 6 ≠ 5 by decide)]
      exact hI.did6
    · simp only [List.getElem?_toArray, List.getElem?_cons_zero, List.getElem?_cons_succ, Option.some.injEq, Nat.zero_add, Nat.reduceAdd] at ho
      subst ho
      have p0 := hd { on := 0, ground := .phase } (by simp) (by rfl)
      have p1 := hd { on := 1, ground := .phase } (by simp) (by rfl)
      have p2 := hd { on := 2, ground := .phase } (by simp) (by rfl)
      have p3 := hd { on := 3, ground := .phase } (by simp) (by rfl)
      have p4 := hd { on := 4, ground := .phase } (by simp) (by rfl)
      have p5 := hd { on := 5, ground := .phase } (by simp) (by rfl)
      have p6 := hd { on := 6, ground := .phase } (by simp) (by rfl)
      obtain ⟨y1, y2, y3, y4, rfl, hF⟩ := hI.f5 p5
      obtain ⟨b, rfl, hbB, hbk⟩ := hI.f8 p6 rfl
      have y0 := hbk.cell (k := 0) rfl
      have y1' := hbk.cell (k := 1) rfl
      have y2' := hbk.cell (k := 2) rfl
      have y3' := hbk.cell (k := 3) rfl
      have z0 := hbk.frozen 0
      have z1 := hbk.frozen 1
      have z2 := hbk.frozen 2
      have z3 := hbk.frozen 3
      have HBk := hid (show Blk ((((W.setCell ⟨b, 0, none⟩ y1).setCell ⟨b, 1, none⟩ y2).setCell ⟨b, 2, none⟩ y3).setCell ⟨b, 3, none⟩ y4) b [y1, y2, y3, y4] 24 from (((hbk.set 0 y1).set 1 y2).set 2 y3).set 3 y4)
      have HLw := hid ((((hI.low.setCell (p := ⟨b, 0, none⟩) hbB y1).setCell (p := ⟨b, 1, none⟩) hbB y2).setCell (p := ⟨b, 2, none⟩) hbB y3).setCell (p := ⟨b, 3, none⟩) hbB y4)
      have HFo := hid (hF.store4 hbk y1 y2 y3 y4)
      obtain ⟨s1, s2, s3, s4⟩ := hF.forms
      obtain ⟨g1, rfl⟩ := s1
      obtain ⟨g2, rfl⟩ := s2
      obtain ⟨g3, rfl⟩ := s3
      obtain ⟨g4, rfl⟩ := s4
      rw [if_pos (by rfl)]
      go_simp
      refine hK _ _ (.inr ⟨fun i => ?_, x1, x2, x3, x4, _, b, _, _, _, _, rfl, HLw.out, hbB, HBk.out, HFo.out⟩)
      by_cases e7 : i = 7
      · subst e7; exact getD_set_eq true (by rw [hs]; decide)
      · rw [getD_set_ne' true (by omega)]
        rcases i with _ | _ | _ | _ | _ | _ | _ | _ | i
        · exact h0
        · exact getD_tf p1
        · exact getD_tf p2
        · exact getD_tf p3
        · exact getD_tf p4
        · exact getD_tf p5
        · exact getD_tf p6
        · exact absurd rfl e7
        · rw [Array.getD_eq_getD_getElem?, Array.getElem?_eq_none (by rw [hs]; simp)]; rfl
    · simp at ho
  · intro listed a' W hs hinv hall
    rcases hinv with ⟨hl7, _⟩ | ⟨_, x1, x2, x3, x4, v5, b, y1, y2, y3, y4, rfl, hlw, hbB, hbk, hF⟩
    · have h7 := getD_tf2 (hall 7) (show 7 < listed.size by rw [hs]; decide)
      rw [hl7] at h7; cases h7
    refine NoPanic.normal ?_
    obtain ⟨g1, g2, g3, g4, e1, e2, e3, e4, FS⟩ : ∃ g1 g2 g3 g4, y1 = .slice (some ⟨g1, 0, none⟩) 256 256 ∧ y2 = .slice (some ⟨g2, 0, none⟩) 44 44 ∧ y3 = .slice (some ⟨g3, 0, none⟩) 28 28 ∧ y4 = .slice (some ⟨g4, 0, none⟩) 44 44 ∧
        RfS w lb b g1 g2 g3 g4 (cntK 1 (l.take 0)) (cntK 2 (l.take 0)) (cntK 3 (l.take 0)) W := by
      obtain ⟨⟨g1, e1, k1, h1⟩, ⟨g2, e2, k2, h2⟩, ⟨g3, e3, k3, h3⟩, ⟨g4, e4, k4, h4⟩, n23, n24, n34⟩ := hF
      refine ⟨g1, g2, g3, g4, e1, e2, e3, e4, ⟨by rw [← e1, ← e2, ← e3, ← e4]; exact hbk, h1, h2, h3, h4, HP2.out.below hlw HP2.out.lt, HB2.out.trans (hlw.mono HB2.out.size), blk_len_ne h1 h2 (by simp [histS_length]), blk_len_ne h1 h3 (by simp [histS_length]), blk_len_ne h1 h4 (by simp [histS_length]), fun e => n23 (by rw [e2, e3, e]; try rfl), fun e => n24 (by rw [e2, e4, e]; try rfl), fun e => n34 (by rw [e3, e4, e]; try rfl), Nat.le_trans HB2.out.size k2, Nat.le_trans HB2.out.size k3, Nat.le_trans HB2.out.size k4⟩⟩
    have HF0 := hid FS
    subst e1 e2 e3 e4
    have hlc := HH.out.hlc
    have hll := HH.out.hl
    have hlcI : (l.length : Int) ≤ (cl : Int) := by omega
    have hllI : (l.length : Int) ≤ 40000 := by omega
    clear hlw hbB hbk hF FS hlc hll hall hs
    go_wp2_with fail
    go_loopw [9] (fun i wr => ∃ k : Nat, k ≤ l.length ∧ i = .int .i64 (k : Int) ∧ RfS w lb b g1 g2 g3 g4 (cntK 1 (l.take k)) (cntK 2 (l.take k)) (cntK 3 (l.take k)) wr) (fun i _ => l.length - (intOf i).toNat)
    case atStart => exact ⟨0, Nat.zero_le _, rfl, HF0.out⟩
    case round =>
      obtain ⟨k, hk, rfl, hS⟩ := hrel
      have HS := hid hS
      by_cases hlt : k < l.length
      · obtain ⟨s, hsk⟩ : ∃ s, l[k]? = some s := ⟨l[k], by simp [hlt]⟩
        obtain ⟨hq1, hq2, hq3, hq4⟩ := plan_seq HPn.out hsk
        obtain ⟨bl, o, rfl, hbl, y0, y1, y2⟩ := seq_cells (HH.out.cells.low HS.out.low) hsk
        obtain ⟨lit, len, off⟩ := s
        dsimp only at hq1 hq2 hq3 hq4 y0 y1 y2
        have hllk : (l.take k).length ≤ 40000 := by have := HH.out.hl; rw [List.length_take]; omega
        have hltI : (k : Int) < (l.length : Int) := by omega
        have HLt := hid hlt
        have hof := HOf.out _ (List.mem_of_getElem? hsk)
        unfold offOk at hof
        simp only [Bool.and_eq_true, decide_eq_true_eq] at hof
        obtain ⟨ho1, ho2⟩ := hof
        have hco1 : codeS false lit = some (codeK 1 ⟨lit, len, off⟩) := by unfold codeS; rw [if_pos (by unfold eleast ebelow; simp; omega)]; rfl
        have hco2 : codeS true (off + 3) = some (codeK 2 ⟨lit, len, off⟩) := by unfold codeS; rw [if_pos (by unfold eleast ebelow; simp; omega)]; rfl
        have hco3 : codeS false (len - 3) = some (codeK 3 ⟨lit, len, off⟩) := by unfold codeS; rw [if_pos (by unfold eleast ebelow; simp; omega)]; rfl
        have hw3 : IntKind.i64.wrap (len - 3) = len - 3 := by rw [IntKind.wrap_i64]; omega
        have hw4 : IntKind.i64.wrap (off + 3) = off + 3 := by rw [IntKind.wrap_i64]; omega
        have hcl1 : codeK 1 ⟨lit, len, off⟩ < symN 1 := by
          have := codeS_lt hco1
          rw [symN_codes 1 (by decide)]
          exact this
        obtain ⟨x1, hxi1⟩ : ∃ x, (cntK 1 (l.take k))[codeK 1 ⟨lit, len, off⟩]? = some x := ⟨(cntK 1 (l.take k))[codeK 1 ⟨lit, len, off⟩]'(by rw [cntK_length]; exact hcl1), List.getElem?_eq_getElem _⟩
        have hxb1 := cntK_le 1 (l.take k) x1 (List.mem_of_getElem? hxi1)
        have hxw1 : IntKind.i64.wrap (x1 + 1) = x1 + 1 := by rw [IntKind.wrap_i64]; omega
        have hsn1 : cntK 1 (l.take (k + 1)) = bumpK (cntK 1 (l.take k)) (codeK 1 ⟨lit, len, off⟩) := by
          obtain ⟨_, e⟩ := List.getElem?_eq_some_iff.1 hsk
          rw [List.take_succ_eq_append_getElem hlt, e, cntK_snoc]
        have HSn1 := hid hsn1
        have HXi1 := hid hxi1
        have hiI1 : (codeK 1 ⟨lit, len, off⟩ : Int) < 44 := by have : symN 1 = 44 := rfl; omega
        have HCo1 : Hid (∀ W, Calls Tryz.prog 62 #[.int .i64 (lit), .bool false] W fun e w' => (∃ r : Int, e = .returned (.tuple #[.int .i64 (codeK 1 ⟨lit, len, off⟩ : Nat), .int .u64 r, .int .i64 0])) ∧ W = w') := hid (fun W => by
          have := rof_any false (lit) W
          rw [show codeS false (lit) = some (codeK 1 ⟨lit, len, off⟩) from hco1] at this
          exact this)
        clear hsn1 hxi1 hcl1 hxb1
        generalize codeK 1 ⟨lit, len, off⟩ = i1 at *
        have hcl2 : codeK 2 ⟨lit, len, off⟩ < symN 2 := by
          have := codeS_lt hco2
          rw [symN_codes 2 (by decide)]
          exact this
        obtain ⟨x2, hxi2⟩ : ∃ x, (cntK 2 (l.take k))[codeK 2 ⟨lit, len, off⟩]? = some x := ⟨(cntK 2 (l.take k))[codeK 2 ⟨lit, len, off⟩]'(by rw [cntK_length]; exact hcl2), List.getElem?_eq_getElem _⟩
        have hxb2 := cntK_le 2 (l.take k) x2 (List.mem_of_getElem? hxi2)
        have hxw2 : IntKind.i64.wrap (x2 + 1) = x2 + 1 := by rw [IntKind.wrap_i64]; omega
        have hsn2 : cntK 2 (l.take (k + 1)) = bumpK (cntK 2 (l.take k)) (codeK 2 ⟨lit, len, off⟩) := by
          obtain ⟨_, e⟩ := List.getElem?_eq_some_iff.1 hsk
          rw [List.take_succ_eq_append_getElem hlt, e, cntK_snoc]
        have HSn2 := hid hsn2
        have HXi2 := hid hxi2
        have hiI2 : (codeK 2 ⟨lit, len, off⟩ : Int) < 28 := by have : symN 2 = 28 := rfl; omega
        have HCo2 : Hid (∀ W, Calls Tryz.prog 62 #[.int .i64 (off + 3), .bool true] W fun e w' => (∃ r : Int, e = .returned (.tuple #[.int .i64 (codeK 2 ⟨lit, len, off⟩ : Nat), .int .u64 r, .int .i64 0])) ∧ W = w') := hid (fun W => by
          have := rof_any true (off + 3) W
          rw [show codeS true (off + 3) = some (codeK 2 ⟨lit, len, off⟩) from hco2] at this
          exact this)
        clear hsn2 hxi2 hcl2 hxb2
        generalize codeK 2 ⟨lit, len, off⟩ = i2 at *
        have hcl3 : codeK 3 ⟨lit, len, off⟩ < symN 3 := by
          have := codeS_lt hco3
          rw [symN_codes 3 (by decide)]
          exact this
        obtain ⟨x3, hxi3⟩ : ∃ x, (cntK 3 (l.take k))[codeK 3 ⟨lit, len, off⟩]? = some x := ⟨(cntK 3 (l.take k))[codeK 3 ⟨lit, len, off⟩]'(by rw [cntK_length]; exact hcl3), List.getElem?_eq_getElem _⟩
        have hxb3 := cntK_le 3 (l.take k) x3 (List.mem_of_getElem? hxi3)
        have hxw3 : IntKind.i64.wrap (x3 + 1) = x3 + 1 := by rw [IntKind.wrap_i64]; omega
        have hsn3 : cntK 3 (l.take (k + 1)) = bumpK (cntK 3 (l.take k)) (codeK 3 ⟨lit, len, off⟩) := by
          obtain ⟨_, e⟩ := List.getElem?_eq_some_iff.1 hsk
          rw [List.take_succ_eq_append_getElem hlt, e, cntK_snoc]
        have HSn3 := hid hsn3
        have HXi3 := hid hxi3
        have hiI3 : (codeK 3 ⟨lit, len, off⟩ : Int) < 44 := by have : symN 3 = 44 := rfl; omega
        have HCo3 : Hid (∀ W, Calls Tryz.prog 62 #[.int .i64 (len - 3), .bool false] W fun e w' => (∃ r : Int, e = .returned (.tuple #[.int .i64 (codeK 3 ⟨lit, len, off⟩ : Nat), .int .u64 r, .int .i64 0])) ∧ W = w') := hid (fun W => by
          have := rof_any false (len - 3) W
          rw [show codeS false (len - 3) = some (codeK 3 ⟨lit, len, off⟩) from hco3] at this
          exact this)
        clear hsn3 hxi3 hcl3 hxb3
        generalize codeK 3 ⟨lit, len, off⟩ = i3 at *
        clear hbl hsk hco1 hco2 hco3 hq1 hq2 hq3 hq4 hllk hlt hk hS
        go_wp2_with fail
        refine (HCo1.out _).mono ?_
        rintro e w' ⟨⟨r1, rfl⟩, rfl⟩
        go_wp2_with fail
        refine (HCo2.out _).mono ?_
        rintro e w' ⟨⟨r2, rfl⟩, rfl⟩
        go_wp2_with fail
        refine (HCo3.out _).mono ?_
        rintro e w' ⟨⟨r3, rfl⟩, rfl⟩
        clear y0 y1 y2
        have f0 := HS.out.four.cell (k := 1) rfl
        have hcel := HS.out.r1.cell (k := i1) (u := .int .i64 x1) (by rw [List.getElem?_map, HXi1.out]; rfl)
        have hcez := HS.out.r1.frozen i1
        go_upto_region 14 with fail
        have HU1 := hid (HS.out.b1 HXi1.out)
        clear f0 hcel hcez
        generalize wr.setCell ⟨g2, i1, none⟩ (.int .i64 (x1 + 1)) = wn1 at *
        have f0 := HU1.out.four.cell (k := 2) rfl
        have hcel := HU1.out.r2.cell (k := i2) (u := .int .i64 x2) (by rw [List.getElem?_map, HXi2.out]; rfl)
        have hcez := HU1.out.r2.frozen i2
        go_upto_region 15 with fail
        have HU2 := hid (HU1.out.b2 HXi2.out)
        clear f0 hcel hcez
        generalize wn1.setCell ⟨g3, i2, none⟩ (.int .i64 (x2 + 1)) = wn2 at *
        have f0 := HU2.out.four.cell (k := 3) rfl
        have hcel := HU2.out.r3.cell (k := i3) (u := .int .i64 x3) (by rw [List.getElem?_map, HXi3.out]; rfl)
        have hcez := HU2.out.r3.frozen i3
        go_wp2_with fail
        have HU3 := hid (HU2.out.b3 HXi3.out)
        clear f0 hcel hcez
        generalize wn2.setCell ⟨g4, i3, none⟩ (.int .i64 (x3 + 1)) = wn3 at *
        go_roundw
        case rel => exact ⟨k + 1, by have := HLt.out; omega, by go_num, by rw [HSn1.out, HSn2.out, HSn3.out]; exact HU3.out⟩
        case measure => have := HLt.out; simp [intOf]; omega
      · obtain rfl : k = l.length := by omega
        rw [List.take_of_length_le (Nat.le_refl _)] at HS
        have f0 := HS.out.four.cell (k := 0) rfl
        have f1 := HS.out.four.cell (k := 1) rfl
        have f2 := HS.out.four.cell (k := 2) rfl
        have f3 := HS.out.four.cell (k := 3) rfl
        have p0 := HS.out.p.cell (k := 0) rfl
        have p1 := HS.out.p.cell (k := 1) rfl
        have p2 := HS.out.p.cell (k := 2) rfl
        have p3 := HS.out.p.cell (k := 3) rfl
        have z0 := HS.out.p.frozen 0
        have z1 := HS.out.p.frozen 1
        have z2 := HS.out.p.frozen 2
        have z3 := HS.out.p.frozen 3
        clear hS hk hlt
        go_wp2
        have HPz := hid ((((HS.out.p.set 0 (.slice (some ⟨g1, 0, none⟩) 256 256)).set 1 (.slice (some ⟨g2, 0, none⟩) 44 44)).set 2 (.slice (some ⟨g3, 0, none⟩) 28 28)).set 3 (.slice (some ⟨g4, 0, none⟩) 44 44))
        have HLz := hid ((((HS.out.low.setCell (p := ⟨w.heap.size, 0, none⟩) (Nat.le_refl _) (.slice (some ⟨g1, 0, none⟩) 256 256)).setCell (p := ⟨w.heap.size, 1, none⟩) (Nat.le_refl _) (.slice (some ⟨g2, 0, none⟩) 44 44)).setCell (p := ⟨w.heap.size, 2, none⟩) (Nat.le_refl _) (.slice (some ⟨g3, 0, none⟩) 28 28)).setCell (p := ⟨w.heap.size, 3, none⟩) (Nat.le_refl _) (.slice (some ⟨g4, 0, none⟩) 44 44))
        have HG1 := hid (blk_four HS.out.p HS.out.hist (by decide) (.slice (some ⟨g1, 0, none⟩) 256 256) (.slice (some ⟨g2, 0, none⟩) 44 44) (.slice (some ⟨g3, 0, none⟩) 28 28) (.slice (some ⟨g4, 0, none⟩) 44 44))
        have HG2 := hid (blk_four HS.out.p HS.out.r1 (by decide) (.slice (some ⟨g1, 0, none⟩) 256 256) (.slice (some ⟨g2, 0, none⟩) 44 44) (.slice (some ⟨g3, 0, none⟩) 28 28) (.slice (some ⟨g4, 0, none⟩) 44 44))
        have HG3 := hid (blk_four HS.out.p HS.out.r2 (by decide) (.slice (some ⟨g1, 0, none⟩) 256 256) (.slice (some ⟨g2, 0, none⟩) 44 44) (.slice (some ⟨g3, 0, none⟩) 28 28) (.slice (some ⟨g4, 0, none⟩) 44 44))
        have HG4 := hid (blk_four HS.out.p HS.out.r3 (by decide) (.slice (some ⟨g1, 0, none⟩) 256 256) (.slice (some ⟨g2, 0, none⟩) 44 44) (.slice (some ⟨g3, 0, none⟩) 28 28) (.slice (some ⟨g4, 0, none⟩) 44 44))
        clear f0 f1 f2 f3 p0 p1 p2 p3 z0 z1 z2 z3
        have p0 := HPz.out.cell (k := 0) rfl
        have p1 := HPz.out.cell (k := 1) rfl
        have p2 := HPz.out.cell (k := 2) rfl
        have p3 := HPz.out.cell (k := 3) rfl
        refine bodyPost_ret (v := .tuple #[.agg #[.slice (some ⟨g1, 0, none⟩) 256 256, .slice (some ⟨g2, 0, none⟩) 44 44, .slice (some ⟨g3, 0, none⟩) 28 28, .slice (some ⟨g4, 0, none⟩) 44 44], .int .i64 0]) (by simp [results, Tryz.results29, go_sem, p0, p1, p2, p3]) rfl ?_
        have e0 : planC bs l 0 = histS lb := by rw [HLb.out]; rfl
        have l0 : (planC bs l 0).length = 256 := by rw [e0]; exact histS_length _
        have l1 : (planC bs l 1).length = 44 := cntK_length 1 l
        have l2 : (planC bs l 2).length = 28 := cntK_length 2 l
        have l3 : (planC bs l 3).length = 44 := cntK_length 3 l
        refine ⟨(fun k => if k = 0 then some ⟨g1, 0, none⟩ else if k = 1 then some ⟨g2, 0, none⟩ else if k = 2 then some ⟨g3, 0, none⟩ else some ⟨g4, 0, none⟩), (fun k => if k = 0 then 256 else if k = 1 then 44 else if k = 2 then 28 else 44), ?_, ⟨⟨fun k hk => ?_, fun k hk => ?_, fun k hk => ?_, fun k hk => ?_⟩, planC_ok (by have := HH.out.hl; omega)⟩, HLz.out⟩
        · unfold fourV
          rw [l0, l1, l2, l3]
          rfl
        · have : k = 0 ∨ k = 1 ∨ k = 2 ∨ k = 3 := by omega
          rcases this with rfl | rfl | rfl | rfl
          · rw [l0]; exact Nat.le_refl _
          · rw [l1]; exact Nat.le_refl _
          · rw [l2]; exact Nat.le_refl _
          · rw [l3]; exact Nat.le_refl _
        · unfold maxLen; split <;> (try split) <;> (try split) <;> omega
        · split <;> (try split) <;> (try split) <;> (intro h; cases h)
        · have : k = 0 ∨ k = 1 ∨ k = 2 ∨ k = 3 := by omega
          rcases this with rfl | rfl | rfl | rfl
          · rw [e0]; exact Cs.of_blk HG1.out
          · exact Cs.of_blk HG2.out
          · exact Cs.of_blk HG3.out
          · exact Cs.of_blk HG4.out
end Go.Proofs.YtiagbejfghincaaGreat
