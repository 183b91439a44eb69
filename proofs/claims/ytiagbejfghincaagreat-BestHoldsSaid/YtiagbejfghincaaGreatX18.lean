/-
  The walks of layer 32 (price), seventh part: New, Uniform, FromPlan.
-/
import Derived.Test.YtiagbejfghincaaGreatX14
import Derived.Test.YtiagbejfghincaaGreatX03
import Derived.Test.YtiagbejfghincaaGreatX17
import Derived.Deep.OwnRows
import Derived.WalkKit
import Derived.RegionTactic
import Derived.Below
namespace Go.Proofs.YtiagbejfghincaaGreat
open Go.RowKit Go.Port
theorem prnew_ok (A : Nat → Option Addr) (cp : Nat → Nat) (C : Nat → List Int) (w : World) (h : FourAt w A cp C) (hok : ∀ k, k < 4 → HistOk k (C k)) :
    Calls Tryz.prog 33 #[.slice (A 0) (C 0).length (cp 0), .slice (A 1) (C 1).length (cp 1), .slice (A 2) (C 2).length (cp 2), .slice (A 3) (C 3).length (cp 3)] w fun e w' => ∃ M, e = .returned (.tuple #[.pointer (some ⟨M, 0, none⟩), .int .i64 0]) ∧ PrAt w' M C ∧ w.heap.size ≤ M ∧ Below w.heap.size w w' := by
  have HM := hid (prmade_ok A cp C w h hok)
  unfold fourV at HM
  clear h hok
  go_enter Tryz.func33, Tryz.ntmps33
  go_wp2_with fail
  refine HM.out.mono ?_
  rintro e w1 ⟨M, rfl, hp, hM, hb⟩
  have HP := hid (And.intro hp (And.intro hM hb))
  clear hp hM hb
  go_wp2
  go_ret2
  exact ⟨M, rfl, HP.out⟩
/-- The empty histograms. -/
def noC : Nat → List Int := fun _ => []
theorem noC_ok : ∀ k, k < 4 → HistOk k (noC k) := fun k _ => ⟨by simp [noC], fun x hx => by simp [noC] at hx⟩
theorem pruniform_any (w : World) : Calls Tryz.prog 27 #[] w fun e w' => ∃ M, e = .returned (.pointer (some ⟨M, 0, none⟩)) ∧ PrAt w' M noC ∧ w.heap.size ≤ M ∧ Below w.heap.size w w' := by
  have HM := hid (prmade_ok (fun _ => none) (fun _ => 0) noC w ⟨fun _ _ => by simp [noC], fun _ _ => by simp, fun _ _ _ => rfl, fun k _ j u hu => by simp [noC] at hu⟩ noC_ok)
  have HM : Hid (Calls Tryz.prog 53 #[.agg #[.slice none 0 0, .slice none 0 0, .slice none 0 0, .slice none 0 0]] w fun e w' => ∃ M, e = .returned (.tuple #[.pointer (some ⟨M, 0, none⟩), .int .i64 0]) ∧ PrAt w' M noC ∧ w.heap.size ≤ M ∧ Below w.heap.size w w') := HM
  go_enter Tryz.func27, Tryz.ntmps27
  go_wp2_with fail
  refine HM.out.mono ?_
  rintro e w1 ⟨M, rfl, hp, hM, hb⟩
  have HP := hid (And.intro hp (And.intro hM hb))
  clear hp hM hb
  go_wp2
  go_ret
  exact ⟨M, rfl, HP.out⟩
/-- A plan and its data in memory. -/
structure PdAt (w : World) (a : Option Addr) (cl : Nat) (l : List Sq) (ad : Option Addr) (c : Nat) (bs : List UInt8) : Prop where
  hl : l.length ≤ 40000
  hlc : l.length ≤ cl
  cells : Cs w a (l.flatMap lsqc)
  hcm : bs.length ≤ 1000000 ∧ c ≤ 9223372036854775807
  hLc : bs.length ≤ c
  had : ad = none → c = 0
  data : Cs w ad (bs.map bv)
  small : bs.length ≤ 131072
theorem PdAt.low {w w' : World} {a : Option Addr} {cl : Nat} {l : List Sq} {ad : Option Addr} {c : Nat} {bs : List UInt8} (h : PdAt w a cl l ad c bs) (hb : Below w.heap.size w w') : PdAt w' a cl l ad c bs :=
  ⟨h.hl, h.hlc, h.cells.low hb, h.hcm, h.hLc, h.had, h.data.low hb, h.small⟩
set_option maxRecDepth 100000 in
theorem prliterals_ok (w : World) (a : Option Addr) (cl : Nat) (l : List Sq) (ad : Option Addr) (c : Nat) (bs : List UInt8) (h : PdAt w a cl l ad c bs) (hp : plitsO bs l = true) :
    Calls Tryz.prog 46 #[.slice ad bs.length c, .slice a l.length cl] w fun e w' => ∃ v, e = .returned v ∧ w'.ownsRow w.heap.size 5 1 v (litsS bs l).length ((litsS bs l).map bv) ∧ Below w.heap.size w w' := by
  have HL := hid (lliterals_yes l a cl ad c bs w (by have := h.hl; omega) h.hlc h.cells h.hcm h.hLc h.had h.data hp)
  have hs := h.small
  have hsI : (bs.length : Int) ≤ 131072 := by omega
  clear h hp hs
  go_enter Tryz.func46, Tryz.ntmps46
  go_wp2_with fail
  refine HL.out.mono ?_
  rintro e w1 ⟨v, rfl, ho, hb⟩
  have HP := hid (And.intro ho hb)
  obtain ⟨av, cv, rfl⟩ := own_slice ho
  clear ho hb
  go_wp2
  go_ret
  exact ⟨_, rfl, HP.out⟩
set_option maxRecDepth 100000 in
theorem prliterals_bad (w : World) (a : Option Addr) (cl : Nat) (l : List Sq) (ad : Option Addr) (c : Nat) (bs : List UInt8) (h : PdAt w a cl l ad c bs) (hp : plitsO bs l = false) :
    Calls Tryz.prog 46 #[.slice ad bs.length c, .slice a l.length cl] w (PanV w 15) := by
  have HL := hid (lliterals_bad l a cl ad c bs w (by have := h.hl; omega) h.hlc h.cells h.hLc hp)
  have hs := h.small
  have hsI : (bs.length : Int) ≤ 131072 := by omega
  clear h hp hs
  go_enter Tryz.func46, Tryz.ntmps46
  go_wp2_with fail
  refine HL.out.mono ?_
  rintro e w1 ⟨rfl, hb⟩
  go_wp2
  exact ⟨rfl, rfl, hb⟩
/-- The histogram of the literals; a row of zeros. -/
def RHist (lb : List UInt8) (x : Value) (W : World) : Prop := ∃ b, x = .slice (some ⟨b, 0, none⟩) 256 256 ∧ Blk W b ((histS lb).map iv) 148
def RZer (B n : Nat) (x : Value) (W : World) : Prop := ∃ b, x = .slice (some ⟨b, 0, none⟩) n n ∧ B ≤ b ∧ Blk W b (List.replicate n (iv 0)) 3
theorem RHist.low {lb : List UInt8} {x : Value} {W W' : World} (h : RHist lb x W) (hb : Below W.heap.size W W') : RHist lb x W' := let ⟨b, h1, h3⟩ := h; ⟨b, h1, h3.below hb h3.lt⟩
theorem RZer.low {B n : Nat} {x : Value} {W W' : World} (h : RZer B n x W) (hb : Below W.heap.size W W') : RZer B n x W' := let ⟨b, h1, h2, h3⟩ := h; ⟨b, h1, h2, h3.below hb h3.lt⟩
theorem RZer.lt {B n : Nat} {x : Value} {W : World} (h : RZer B n x W) : ∀ k, x.ownBlock = some k → k < W.heap.size := by
  obtain ⟨b, rfl, _, h3⟩ := h
  intro k e
  cases e
  exact h3.lt
theorem RZer.new {B n : Nat} (W : World) (hB : B ≤ W.heap.size) : RZer B n (.slice (some ⟨W.heap.size, 0, none⟩) n n) (W.alloc (.cells (List.replicate n (iv 0)).toArray 3)) := ⟨_, rfl, hB, Blk.new W _ _⟩
/-- The four histograms. -/
structure FpFour (B : Nat) (lb : List UInt8) (x14 x15 x16 x17 : Value) (W : World) : Prop where
  h : RHist lb x14 W
  z1 : RZer B 44 x15 W
  z2 : RZer B 28 x16 W
  z3 : RZer B 44 x17 W
  n1 : x15.ownBlock ≠ x16.ownBlock
  n2 : x15.ownBlock ≠ x17.ownBlock
  n3 : x16.ownBlock ≠ x17.ownBlock
theorem FpFour.low {B : Nat} {lb : List UInt8} {x14 x15 x16 x17 : Value} {W W' : World} (h : FpFour B lb x14 x15 x16 x17 W) (hb : Below W.heap.size W W') : FpFour B lb x14 x15 x16 x17 W' :=
  ⟨h.h.low hb, h.z1.low hb, h.z2.low hb, h.z3.low hb, h.n1, h.n2, h.n3⟩
/-- Where the region stands that makes the four. -/
structure FpI (w0 : World) (lb : List UInt8) (b2 b3 b4 b5 b6 b7 b8 b9 b10 : Bool) (v12 v13 v14 v15 v16 v17 v18 v6 : Value) (W : World) : Prop where
  low : Below w0.heap.size w0 W
  f12 : b2 = true → W.ownsRow w0.heap.size 5 1 v12 lb.length (lb.map bv)
  f13 : b3 = true → ∃ b u, v13 = .slice (some ⟨b, 0, none⟩) 1 1 ∧ Blk W b [u] 22 ∧ W.ownsRow w0.heap.size 5 1 u lb.length (lb.map bv)
  f14 : b4 = true → RHist lb v14 W
  f15 : b5 = true → RZer w0.heap.size 44 v15 W
  f16 : b6 = true → RZer w0.heap.size 28 v16 W
  f17 : b7 = true → RZer w0.heap.size 44 v17 W
  n1 : b5 = true → b6 = true → v15.ownBlock ≠ v16.ownBlock
  n2 : b5 = true → b7 = true → v15.ownBlock ≠ v17.ownBlock
  n3 : b6 = true → b7 = true → v16.ownBlock ≠ v17.ownBlock
  f18 : b8 = true → ∃ x14 x15 x16 x17, v18 = .agg #[x14, x15, x16, x17] ∧ FpFour w0.heap.size lb x14 x15 x16 x17 W
  f6 : b9 = true → b10 = false → ∃ b, v6 = .pointer (some ⟨b, 0, none⟩) ∧ w0.heap.size ≤ b ∧ Blk W b [.slice none 0 0, .slice none 0 0, .slice none 0 0, .slice none 0 0] 24
  f10 : b10 = true → ∃ b x14 x15 x16 x17, v6 = .pointer (some ⟨b, 0, none⟩) ∧ w0.heap.size ≤ b ∧ Blk W b [x14, x15, x16, x17] 24 ∧ FpFour w0.heap.size lb x14 x15 x16 x17 W
section
variable {w0 : World} {lb : List UInt8} {b2 b3 b4 b5 b6 b7 b8 b9 b10 : Bool} {v12 v13 v14 v15 v16 v17 v18 v6 : Value} {W W' : World}
theorem FpI.grow (h : FpI w0 lb b2 b3 b4 b5 b6 b7 b8 b9 b10 v12 v13 v14 v15 v16 v17 v18 v6 W) (hb : Below W.heap.size W W') : FpI w0 lb b2 b3 b4 b5 b6 b7 b8 b9 b10 v12 v13 v14 v15 v16 v17 v18 v6 W' :=
  ⟨h.low.trans (hb.mono h.low.size), fun e => own_low (h.f12 e) hb, fun e => let ⟨b, u, h1, h2, h3⟩ := h.f13 e; ⟨b, u, h1, h2.below hb h2.lt, own_low h3 hb⟩, fun e => (h.f14 e).low hb, fun e => (h.f15 e).low hb, fun e => (h.f16 e).low hb, fun e => (h.f17 e).low hb,
    h.n1, h.n2, h.n3, fun e => let ⟨x1, x2, x3, x4, h1, h2⟩ := h.f18 e; ⟨x1, x2, x3, x4, h1, h2.low hb⟩, fun e e2 => let ⟨b, h1, h2, h3⟩ := h.f6 e e2; ⟨b, h1, h2, h3.below hb h3.lt⟩,
    fun e => let ⟨b, x1, x2, x3, x4, h1, h2, h3, h4⟩ := h.f10 e; ⟨b, x1, x2, x3, x4, h1, h2, h3.below hb h3.lt, h4.low hb⟩⟩
end
theorem blk_ne {w : World} {b b' : Nat} {vs vs' : List Value} {t t' : TypeId} (h : Blk w b vs t) (h' : Blk w b' vs' t') (ht : t ≠ t') : b ≠ b' := by
  rintro rfl
  unfold Blk at h h'
  rw [h] at h'
  simp only [Option.some.injEq, Obj.cells.injEq] at h'
  exact ht h'.2.1
theorem RZer.store {B n b k : Nat} {x u : Value} {W : World} {vs : List Value} (h : RZer B n x W) (hb : Blk W b vs 24) : RZer B n x (W.setCell ⟨b, k, none⟩ u) := by
  obtain ⟨g, h1, h2, h3⟩ := h
  exact ⟨g, h1, h2, h3.other u (fun e => (blk_ne hb h3 (by decide)) e)⟩
theorem RHist.store {b k : Nat} {lb : List UInt8} {x u : Value} {W : World} {vs : List Value} (h : RHist lb x W) (hb : Blk W b vs 24) : RHist lb x (W.setCell ⟨b, k, none⟩ u) := by
  obtain ⟨g, h1, h3⟩ := h
  exact ⟨g, h1, h3.other u (fun e => (blk_ne hb h3 (by decide)) e)⟩
end Go.Proofs.YtiagbejfghincaaGreat
namespace Go.Port
open Go.RowKit
def bumpK (c : List Int) (i : Nat) : List Int := c.set i (c.getD i 0 + 1)
theorem bumpK_at {c : List Int} {i : Nat} {x : Int} (h : c[i]? = some x) : (bumpK c i).map iv = (c.map iv).set i (.int .i64 (x + 1)) := by
  unfold bumpK
  rw [List.map_set, List.getD_eq_getElem?_getD, h]
  rfl
end Go.Port
namespace Go.Proofs.YtiagbejfghincaaGreat
open Go.RowKit Go.Port
/-- While the sequences are counted. -/
structure FpS (w : World) (lb : List UInt8) (b g14 g15 g16 g17 : Nat) (c1 c2 c3 : List Int) (W : World) : Prop where
  four : Blk W b [.slice (some ⟨g14, 0, none⟩) 256 256, .slice (some ⟨g15, 0, none⟩) 44 44, .slice (some ⟨g16, 0, none⟩) 28 28, .slice (some ⟨g17, 0, none⟩) 44 44] 24
  hist : Blk W g14 ((histS lb).map iv) 148
  r1 : Blk W g15 (c1.map iv) 3
  r2 : Blk W g16 (c2.map iv) 3
  r3 : Blk W g17 (c3.map iv) 3
  p : Blk W w.heap.size [.pointer none] 28
  e : Blk W (w.heap.size + 1) [.int .i64 0] 46
  low : Below w.heap.size w W
  n1 : g15 ≠ g16
  n2 : g15 ≠ g17
  n3 : g16 ≠ g17
  l1 : w.heap.size ≤ g15
  l2 : w.heap.size ≤ g16
  l3 : w.heap.size ≤ g17
section
variable {w : World} {lb : List UInt8} {b g14 g15 g16 g17 : Nat} {c1 c2 c3 : List Int} {W W' : World}
theorem FpS.grow (h : FpS w lb b g14 g15 g16 g17 c1 c2 c3 W) (hb : Below W.heap.size W W') : FpS w lb b g14 g15 g16 g17 c1 c2 c3 W' :=
  ⟨h.four.below hb h.four.lt, h.hist.below hb h.hist.lt, h.r1.below hb h.r1.lt, h.r2.below hb h.r2.lt, h.r3.below hb h.r3.lt, h.p.below hb h.p.lt, h.e.below hb h.e.lt, h.low.trans (hb.mono h.low.size), h.n1, h.n2, h.n3, h.l1, h.l2, h.l3⟩
theorem FpS.b1 (h : FpS w lb b g14 g15 g16 g17 c1 c2 c3 W) {i : Nat} {x : Int} (hx : c1[i]? = some x) : FpS w lb b g14 g15 g16 g17 (bumpK c1 i) c2 c3 (W.setCell ⟨g15, i, none⟩ (.int .i64 (x + 1))) :=
  ⟨h.four.other _ (blk_ne h.r1 h.four (by decide)), h.hist.other _ (blk_ne h.r1 h.hist (by decide)), by rw [bumpK_at hx]; exact h.r1.set i _, h.r2.other _ h.n1, h.r3.other _ h.n2, h.p.other _ (blk_ne h.r1 h.p (by decide)), h.e.other _ (blk_ne h.r1 h.e (by decide)), h.low.setCell (p := ⟨g15, i, none⟩) h.l1 _, h.n1, h.n2, h.n3, h.l1, h.l2, h.l3⟩
theorem FpS.b2 (h : FpS w lb b g14 g15 g16 g17 c1 c2 c3 W) {i : Nat} {x : Int} (hx : c2[i]? = some x) : FpS w lb b g14 g15 g16 g17 c1 (bumpK c2 i) c3 (W.setCell ⟨g16, i, none⟩ (.int .i64 (x + 1))) :=
  ⟨h.four.other _ (blk_ne h.r2 h.four (by decide)), h.hist.other _ (blk_ne h.r2 h.hist (by decide)), h.r1.other _ (Ne.symm h.n1), by rw [bumpK_at hx]; exact h.r2.set i _, h.r3.other _ h.n3, h.p.other _ (blk_ne h.r2 h.p (by decide)), h.e.other _ (blk_ne h.r2 h.e (by decide)), h.low.setCell (p := ⟨g16, i, none⟩) h.l2 _, h.n1, h.n2, h.n3, h.l1, h.l2, h.l3⟩
theorem FpS.b3 (h : FpS w lb b g14 g15 g16 g17 c1 c2 c3 W) {i : Nat} {x : Int} (hx : c3[i]? = some x) : FpS w lb b g14 g15 g16 g17 c1 c2 (bumpK c3 i) (W.setCell ⟨g17, i, none⟩ (.int .i64 (x + 1))) :=
  ⟨h.four.other _ (blk_ne h.r3 h.four (by decide)), h.hist.other _ (blk_ne h.r3 h.hist (by decide)), h.r1.other _ (Ne.symm h.n2), h.r2.other _ (Ne.symm h.n3), by rw [bumpK_at hx]; exact h.r3.set i _, h.p.other _ (blk_ne h.r3 h.p (by decide)), h.e.other _ (blk_ne h.r3 h.e (by decide)), h.low.setCell (p := ⟨g17, i, none⟩) h.l3 _, h.n1, h.n2, h.n3, h.l1, h.l2, h.l3⟩
end
/-- How a panic of FromPlan's body leaves it. -/
def FpPan (w : World) (n : Int) (D : List Deferred) (wr : World) : Exit → Act → World → Prop
  | .panic c, a, w' => c = [{ v := .iface 46 (.int .i64 n), recovered := false }] ∧ a.defers = D ∧ a.tmps[4]? = some (.pointer (some ⟨w.heap.size, 0, none⟩)) ∧ a.tmps[5]? = some (.pointer (some ⟨w.heap.size + 1, 0, none⟩)) ∧ Below wr.heap.size wr w'
  | _, _, _ => False
theorem FpPan.put {w wr : World} {n : Int} {D : List Deferred} {d : Nat} (hd : 5 < d) {v : Value} {c : List PanicEntry} {a : Act} {w' : World} (h : FpPan w n D wr (.panic c) (a.put (some d) v) w') : FpPan w n D wr (.panic c) a w' := by
  obtain ⟨h1, h2, h3, h4, h5⟩ := h
  refine ⟨h1, h2, ?_, ?_, h5⟩
  · rw [← h3]
    exact (Array.getElem?_setIfInBounds_ne (by omega)).symm
  · rw [← h4]
    exact (Array.getElem?_setIfInBounds_ne (by omega)).symm
theorem PrAt.other {w : World} {M : Nat} {C : Nat → List Int} (h : PrAt w M C) {b k : Nat} {vs : List Value} {t : TypeId} (hb : Blk w b vs t) (h1 : t ≠ 79) (h2 : t ≠ 143) (h3 : t ≠ 3) (u : Value) : PrAt (w.setCell ⟨b, k, none⟩ u) M C := by
  obtain ⟨R, V, e1, e2, e3⟩ := h.ex
  exact ⟨⟨R, V, e1.other u (blk_ne hb e1 h1), e2.other u (blk_ne hb e2 h2), e3.other hb h3 u⟩, h.ok⟩
theorem Cs.of_blk {w : World} {g : Nat} {vs : List Value} {t : TypeId} (h : Blk w g vs t) : Cs w (some ⟨g, 0, none⟩) vs := fun j u hu => ⟨g, 0, rfl, h.lt, by rw [Nat.zero_add]; exact h.cell hu⟩
theorem seq_cells {w : World} {a : Option Addr} {l : List Sq} (hc : Cs w a (l.flatMap lsqc)) {k : Nat} {s : Sq} (hk : l[k]? = some s) :
    ∃ b o, a = some ⟨b, o, none⟩ ∧ b < w.heap.size ∧ w.cell? ⟨b, o + k * 3, none⟩ = some (.int .i64 s.lit) ∧ w.cell? ⟨b, o + k * 3 + 1, none⟩ = some (.int .i64 s.len) ∧ w.cell? ⟨b, o + k * 3 + 2, none⟩ = some (.int .i64 s.off) := by
  have hl : ∀ (l : List Sq), (l.flatMap lsqc).length = l.length * 3 := by
    intro l
    induction l with
    | nil => rfl
    | cons x r ih => simp only [List.flatMap_cons, List.length_append, ih, List.length_cons, lsqc, List.length_nil]; omega
  obtain ⟨h1, h2⟩ := List.getElem?_eq_some_iff.1 hk
  have hlk : ((l.take k).flatMap lsqc).length = k * 3 := by rw [hl, List.length_take, Nat.min_eq_left (Nat.le_of_lt h1)]
  have e2 : l.flatMap lsqc = (l.take k).flatMap lsqc ++ (lsqc s ++ (l.drop (k + 1)).flatMap lsqc) := by
    conv => lhs; rw [← List.take_append_drop k l, List.drop_eq_getElem_cons h1, h2]
    rw [List.flatMap_append, List.flatMap_cons]
  have hg : ∀ j, j < 3 → (l.flatMap lsqc)[k * 3 + j]? = (lsqc s)[j]? := fun j hj => by
    rw [e2, List.getElem?_append_right (by omega), hlk, Nat.add_sub_cancel_left, List.getElem?_append_left (by simp [lsqc]; omega)]
  obtain ⟨b, o, e, hb, c0⟩ := hc (k * 3 + 0) (.int .i64 s.lit) (by rw [hg 0 (by decide)]; rfl)
  obtain ⟨_, _, e1, _, c1⟩ := hc (k * 3 + 1) (.int .i64 s.len) (by rw [hg 1 (by decide)]; rfl)
  rw [e] at e1; cases e1
  obtain ⟨_, _, e1, _, c2⟩ := hc (k * 3 + 2) (.int .i64 s.off) (by rw [hg 2 (by decide)]; rfl)
  rw [e] at e1; cases e1
  exact ⟨b, o, e, hb, c0, by rw [Nat.add_assoc]; exact c1, by rw [Nat.add_assoc]; exact c2⟩
end Go.Proofs.YtiagbejfghincaaGreat
