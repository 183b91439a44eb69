/-
  The walks of layer 32 (price), seventh part: New, Uniform, FromPlan.
-/
import Derived.Test.YtlgablepckmogaaGreatQ19
import Derived.Test.YtlgablepckmogaaGreatQ22
import Derived.Test.YtlgablepckmogaaGreatQ23
namespace Go.Proofs.YtlgablepckmogaaGreat
open Go.RowKit Go.Port
/-- The empty histograms. -/
def noC : Nat → List Int := fun _ => []
theorem noC_ok : ∀ k, k < 4 → HistOk k (noC k) := fun k _ => ⟨by simp [noC], fun x hx => by simp [noC] at hx⟩
theorem pruniform_any (w : World) : Calls Tryz.prog 40 #[] w fun e w' => ∃ M, e = .returned (.pointer (some ⟨M, 0, none⟩)) ∧ PrAt w' M noC ∧ w.heap.size ≤ M ∧ Below w.heap.size w w' := by
  have HM := hid (prmade_ok (fun _ => none) (fun _ => 0) noC w ⟨fun _ _ => by simp [noC], fun _ _ => by simp, fun _ _ _ => rfl, fun k _ j u hu => by simp [noC] at hu⟩ noC_ok)
  have HM : Hid (Calls Tryz.prog 57 #[.agg #[.slice none 0 0, .slice none 0 0, .slice none 0 0, .slice none 0 0]] w fun e w' => ∃ M, e = .returned (.tuple #[.pointer (some ⟨M, 0, none⟩), .int .i64 0]) ∧ PrAt w' M noC ∧ w.heap.size ≤ M ∧ Below w.heap.size w w') := HM
  go_enter Tryz.func40, Tryz.ntmps40
  go_wp2_with fail
  refine HM.out.mono ?_
  rintro e w1 ⟨M, rfl, hp, hM, hb⟩
  have HP := hid (And.intro hp (And.intro hM hb))
  clear hp hM hb
  go_wp2
  go_ret
  exact ⟨M, rfl, HP.out⟩
/-- A plan and its data in memory. -/
structure PdAt (w : World) (a : Option Addr) (cl : Nat) (l : List Sq) (ad : Option Addr) (c : Nat) (bs : List UInt8) : Prop where
  hl : l.length ≤ 40000
  hlc : l.length ≤ cl
  cells : Cs w a (l.flatMap lsqc)
  hcm : bs.length ≤ 1000000 ∧ c ≤ 9223372036854775807
  hLc : bs.length ≤ c
  had : ad = none → c = 0
  data : Cs w ad (bs.map bv)
  small : bs.length ≤ 131072
theorem PdAt.low {w w' : World} {a : Option Addr} {cl : Nat} {l : List Sq} {ad : Option Addr} {c : Nat} {bs : List UInt8} (h : PdAt w a cl l ad c bs) (hb : Below w.heap.size w w') : PdAt w' a cl l ad c bs :=
  ⟨h.hl, h.hlc, h.cells.low hb, h.hcm, h.hLc, h.had, h.data.low hb, h.small⟩
set_option maxRecDepth 100000 in
theorem prliterals_ok (w : World) (a : Option Addr) (cl : Nat) (l : List Sq) (ad : Option Addr) (c : Nat) (bs : List UInt8) (h : PdAt w a cl l ad c bs) (hp : plitsO bs l = true) :
    Calls Tryz.prog 62 #[.slice ad bs.length c, .slice a l.length cl] w fun e w' => ∃ v, e = .returned v ∧ w'.ownsRow w.heap.size 5 1 v (litsS bs l).length ((litsS bs l).map bv) ∧ Below w.heap.size w w' := by
  have HL := hid (lliterals_yes l a cl ad c bs w (by have := h.hl; omega) h.hlc h.cells h.hcm h.hLc h.had h.data hp)
  have hs := h.small
  have hsI : (bs.length : Int) ≤ 131072 := by omega
  clear h hp hs
  go_enter Tryz.func62, Tryz.ntmps62
  go_wp2_with fail
  refine HL.out.mono ?_
  rintro e w1 ⟨v, rfl, ho, hb⟩
  have HP := hid (And.intro ho hb)
  obtain ⟨av, cv, rfl⟩ := own_slice ho
  clear ho hb
  go_wp2
  go_ret
  exact ⟨_, rfl, HP.out⟩
/-- The histogram of the literals; a row of zeros. -/
def RHist (lb : List UInt8) (x : Value) (W : World) : Prop := ∃ b, x = .slice (some ⟨b, 0, none⟩) 256 256 ∧ Blk W b ((histS lb).map iv) 169
def RZer (B n : Nat) (x : Value) (W : World) : Prop := ∃ b, x = .slice (some ⟨b, 0, none⟩) n n ∧ B ≤ b ∧ Blk W b (List.replicate n (iv 0)) 3
theorem RHist.low {lb : List UInt8} {x : Value} {W W' : World} (h : RHist lb x W) (hb : Below W.heap.size W W') : RHist lb x W' := let ⟨b, h1, h3⟩ := h; ⟨b, h1, h3.below hb h3.lt⟩
theorem RZer.low {B n : Nat} {x : Value} {W W' : World} (h : RZer B n x W) (hb : Below W.heap.size W W') : RZer B n x W' := let ⟨b, h1, h2, h3⟩ := h; ⟨b, h1, h2, h3.below hb h3.lt⟩
theorem RZer.lt {B n : Nat} {x : Value} {W : World} (h : RZer B n x W) : ∀ k, x.ownBlock = some k → k < W.heap.size := by
  obtain ⟨b, rfl, _, h3⟩ := h
  intro k e
  cases e
  exact h3.lt
theorem RZer.new {B n : Nat} (W : World) (hB : B ≤ W.heap.size) : RZer B n (.slice (some ⟨W.heap.size, 0, none⟩) n n) (W.alloc (.cells (List.replicate n (iv 0)).toArray 3)) := ⟨_, rfl, hB, Blk.new W _ _⟩
/-- The four histograms. -/
structure FpFour (B : Nat) (lb : List UInt8) (x14 x15 x16 x17 : Value) (W : World) : Prop where
  h : RHist lb x14 W
  z1 : RZer B 44 x15 W
  z2 : RZer B 28 x16 W
  z3 : RZer B 44 x17 W
  n1 : x15.ownBlock ≠ x16.ownBlock
  n2 : x15.ownBlock ≠ x17.ownBlock
  n3 : x16.ownBlock ≠ x17.ownBlock
theorem FpFour.low {B : Nat} {lb : List UInt8} {x14 x15 x16 x17 : Value} {W W' : World} (h : FpFour B lb x14 x15 x16 x17 W) (hb : Below W.heap.size W W') : FpFour B lb x14 x15 x16 x17 W' :=
  ⟨h.h.low hb, h.z1.low hb, h.z2.low hb, h.z3.low hb, h.n1, h.n2, h.n3⟩
/-- Where the region stands that makes the four. -/
structure FpI (w0 : World) (lb : List UInt8) (b2 b3 b4 b5 b6 b7 b8 b9 b10 : Bool) (v12 v13 v14 v15 v16 v17 v18 v6 : Value) (W : World) : Prop where
  low : Below w0.heap.size w0 W
  f12 : b2 = true → W.ownsRow w0.heap.size 5 1 v12 lb.length (lb.map bv)
  f13 : b3 = true → ∃ b u, v13 = .slice (some ⟨b, 0, none⟩) 1 1 ∧ Blk W b [u] 22 ∧ W.ownsRow w0.heap.size 5 1 u lb.length (lb.map bv)
  f14 : b4 = true → RHist lb v14 W
  f15 : b5 = true → RZer w0.heap.size 44 v15 W
  f16 : b6 = true → RZer w0.heap.size 28 v16 W
  f17 : b7 = true → RZer w0.heap.size 44 v17 W
  n1 : b5 = true → b6 = true → v15.ownBlock ≠ v16.ownBlock
  n2 : b5 = true → b7 = true → v15.ownBlock ≠ v17.ownBlock
  n3 : b6 = true → b7 = true → v16.ownBlock ≠ v17.ownBlock
  f18 : b8 = true → ∃ x14 x15 x16 x17, v18 = .agg #[x14, x15, x16, x17] ∧ FpFour w0.heap.size lb x14 x15 x16 x17 W
  f6 : b9 = true → b10 = false → ∃ b, v6 = .pointer (some ⟨b, 0, none⟩) ∧ w0.heap.size ≤ b ∧ Blk W b [.slice none 0 0, .slice none 0 0, .slice none 0 0, .slice none 0 0] 121
  f10 : b10 = true → ∃ b x14 x15 x16 x17, v6 = .pointer (some ⟨b, 0, none⟩) ∧ w0.heap.size ≤ b ∧ Blk W b [x14, x15, x16, x17] 121 ∧ FpFour w0.heap.size lb x14 x15 x16 x17 W
section
variable {w0 : World} {lb : List UInt8} {b2 b3 b4 b5 b6 b7 b8 b9 b10 : Bool} {v12 v13 v14 v15 v16 v17 v18 v6 : Value} {W W' : World}
theorem FpI.grow (h : FpI w0 lb b2 b3 b4 b5 b6 b7 b8 b9 b10 v12 v13 v14 v15 v16 v17 v18 v6 W) (hb : Below W.heap.size W W') : FpI w0 lb b2 b3 b4 b5 b6 b7 b8 b9 b10 v12 v13 v14 v15 v16 v17 v18 v6 W' :=
  ⟨h.low.trans (hb.mono h.low.size), fun e => own_low (h.f12 e) hb, fun e => let ⟨b, u, h1, h2, h3⟩ := h.f13 e; ⟨b, u, h1, h2.below hb h2.lt, own_low h3 hb⟩, fun e => (h.f14 e).low hb, fun e => (h.f15 e).low hb, fun e => (h.f16 e).low hb, fun e => (h.f17 e).low hb,
    h.n1, h.n2, h.n3, fun e => let ⟨x1, x2, x3, x4, h1, h2⟩ := h.f18 e; ⟨x1, x2, x3, x4, h1, h2.low hb⟩, fun e e2 => let ⟨b, h1, h2, h3⟩ := h.f6 e e2; ⟨b, h1, h2, h3.below hb h3.lt⟩,
    fun e => let ⟨b, x1, x2, x3, x4, h1, h2, h3, h4⟩ := h.f10 e; ⟨b, x1, x2, x3, x4, h1, h2, h3.below hb h3.lt, h4.low hb⟩⟩
theorem ne_new {x : Value} (h : ∀ k, x.ownBlock = some k → k < W.heap.size) (n : Nat) : x.ownBlock ≠ (Value.slice (some ⟨W.heap.size, 0, none⟩) n n).ownBlock := fun e => by
  have := h W.heap.size e
  omega
theorem FpI.did2 (h : FpI w0 lb b2 b3 b4 b5 b6 b7 b8 b9 b10 v12 v13 v14 v15 v16 v17 v18 v6 W) (hb : Below W.heap.size W W') {v : Value} (hv : W'.ownsRow W.heap.size 5 1 v lb.length (lb.map bv)) : FpI w0 lb true b3 b4 b5 b6 b7 b8 b9 b10 v v13 v14 v15 v16 v17 v18 v6 W' :=
  { h.grow hb with f12 := fun _ => own_le hv h.low.size }
theorem FpI.did3 (h : FpI w0 lb b2 b3 b4 b5 b6 b7 b8 b9 b10 v12 v13 v14 v15 v16 v17 v18 v6 W) (h2 : b2 = true) : FpI w0 lb b2 true b4 b5 b6 b7 b8 b9 b10 v12 (.slice (some ⟨W.heap.size, 0, none⟩) 1 1) v14 v15 v16 v17 v18 v6 (W.alloc (.cells #[v12] 22)) :=
  { h.grow (below_new W _) with f13 := fun _ => ⟨_, v12, rfl, Blk.new W [v12] _, own_low (h.f12 h2) (below_new W _)⟩ }
theorem FpI.did4 (h : FpI w0 lb b2 b3 b4 b5 b6 b7 b8 b9 b10 v12 v13 v14 v15 v16 v17 v18 v6 W) (hb : Below W.heap.size W W') {v : Value} (hv : RHist lb v W') : FpI w0 lb b2 b3 true b5 b6 b7 b8 b9 b10 v12 v13 v v15 v16 v17 v18 v6 W' :=
  { h.grow hb with f14 := fun _ => hv }
theorem FpI.did5 (h : FpI w0 lb b2 b3 b4 b5 b6 b7 b8 b9 b10 v12 v13 v14 v15 v16 v17 v18 v6 W) : FpI w0 lb b2 b3 b4 true b6 b7 b8 b9 b10 v12 v13 v14 (.slice (some ⟨W.heap.size, 0, none⟩) 44 44) v16 v17 v18 v6 (W.alloc (.cells (List.replicate 44 (iv 0)).toArray 3)) :=
  { h.grow (below_new W _) with f15 := fun _ => RZer.new W h.low.size, n1 := fun _ e => Ne.symm (ne_new (h.f16 e).lt 44), n2 := fun _ e => Ne.symm (ne_new (h.f17 e).lt 44) }
theorem FpI.did6 (h : FpI w0 lb b2 b3 b4 b5 b6 b7 b8 b9 b10 v12 v13 v14 v15 v16 v17 v18 v6 W) : FpI w0 lb b2 b3 b4 b5 true b7 b8 b9 b10 v12 v13 v14 v15 (.slice (some ⟨W.heap.size, 0, none⟩) 28 28) v17 v18 v6 (W.alloc (.cells (List.replicate 28 (iv 0)).toArray 3)) :=
  { h.grow (below_new W _) with f16 := fun _ => RZer.new W h.low.size, n1 := fun e _ => ne_new (h.f15 e).lt 28, n3 := fun _ e => Ne.symm (ne_new (h.f17 e).lt 28) }
theorem FpI.did7 (h : FpI w0 lb b2 b3 b4 b5 b6 b7 b8 b9 b10 v12 v13 v14 v15 v16 v17 v18 v6 W) : FpI w0 lb b2 b3 b4 b5 b6 true b8 b9 b10 v12 v13 v14 v15 v16 (.slice (some ⟨W.heap.size, 0, none⟩) 44 44) v18 v6 (W.alloc (.cells (List.replicate 44 (iv 0)).toArray 3)) :=
  { h.grow (below_new W _) with f17 := fun _ => RZer.new W h.low.size, n2 := fun e _ => ne_new (h.f15 e).lt 44, n3 := fun e _ => ne_new (h.f16 e).lt 44 }
theorem FpI.did8 (h : FpI w0 lb b2 b3 b4 b5 b6 b7 b8 b9 b10 v12 v13 v14 v15 v16 v17 v18 v6 W) (e4 : b4 = true) (e5 : b5 = true) (e6 : b6 = true) (e7 : b7 = true) : FpI w0 lb b2 b3 b4 b5 b6 b7 true b9 b10 v12 v13 v14 v15 v16 v17 (.agg #[v14, v15, v16, v17]) v6 W :=
  { h with f18 := fun _ => ⟨_, _, _, _, rfl, h.f14 e4, h.f15 e5, h.f16 e6, h.f17 e7, h.n1 e5 e6, h.n2 e5 e7, h.n3 e6 e7⟩ }
theorem FpI.did9 (h : FpI w0 lb b2 b3 b4 b5 b6 b7 b8 b9 b10 v12 v13 v14 v15 v16 v17 v18 v6 W) (e10 : b10 = false) : FpI w0 lb b2 b3 b4 b5 b6 b7 b8 true b10 v12 v13 v14 v15 v16 v17 v18 (.pointer (some ⟨W.heap.size, 0, none⟩)) (W.alloc (.cells #[.slice none 0 0, .slice none 0 0, .slice none 0 0, .slice none 0 0] 121)) :=
  { h.grow (below_new W _) with f6 := fun _ _ => ⟨_, rfl, h.low.size, Blk.new W [.slice none 0 0, .slice none 0 0, .slice none 0 0, .slice none 0 0] _⟩, f10 := fun e => by rw [e10] at e; cases e }
end
theorem getD_tf {l : Array Bool} {i : Nat} (h : l.getD i false = true) : l.getD i true = true := by
  rw [Array.getD_eq_getD_getElem?] at h ⊢
  cases e : l[i]? with
  | none => rw [e] at h; cases h
  | some b => rw [e] at h; exact h
theorem getD_tf2 {l : Array Bool} {i : Nat} (h : l.getD i true = true) (hs : i < l.size) : l.getD i false = true := by
  rw [Array.getD_eq_getD_getElem?, Array.getElem?_eq_getElem hs] at h ⊢
  exact h
theorem FpFour.forms {B : Nat} {lb : List UInt8} {x14 x15 x16 x17 : Value} {W : World} (h : FpFour B lb x14 x15 x16 x17 W) : (∃ g, x14 = .slice (some ⟨g, 0, none⟩) 256 256) ∧ (∃ g, x15 = .slice (some ⟨g, 0, none⟩) 44 44) ∧ (∃ g, x16 = .slice (some ⟨g, 0, none⟩) 28 28) ∧ (∃ g, x17 = .slice (some ⟨g, 0, none⟩) 44 44) := by
  obtain ⟨g14, e14, _⟩ := h.h
  obtain ⟨g15, e15, _⟩ := h.z1
  obtain ⟨g16, e16, _⟩ := h.z2
  obtain ⟨g17, e17, _⟩ := h.z3
  exact ⟨⟨_, e14⟩, ⟨_, e15⟩, ⟨_, e16⟩, ⟨_, e17⟩⟩
theorem blk_ne {w : World} {b b' : Nat} {vs vs' : List Value} {t t' : TypeId} (h : Blk w b vs t) (h' : Blk w b' vs' t') (ht : t ≠ t') : b ≠ b' := by
  rintro rfl
  unfold Blk at h h'
  rw [h] at h'
  simp only [Option.some.injEq, Obj.cells.injEq] at h'
  exact ht h'.2.1
theorem RZer.store {B n b k : Nat} {x u : Value} {W : World} {vs : List Value} (h : RZer B n x W) (hb : Blk W b vs 121) : RZer B n x (W.setCell ⟨b, k, none⟩ u) := by
  obtain ⟨g, h1, h2, h3⟩ := h
  exact ⟨g, h1, h2, h3.other u (fun e => (blk_ne hb h3 (by decide)) e)⟩
theorem RHist.store {b k : Nat} {lb : List UInt8} {x u : Value} {W : World} {vs : List Value} (h : RHist lb x W) (hb : Blk W b vs 121) : RHist lb x (W.setCell ⟨b, k, none⟩ u) := by
  obtain ⟨g, h1, h3⟩ := h
  exact ⟨g, h1, h3.other u (fun e => (blk_ne hb h3 (by decide)) e)⟩
theorem FpFour.store4 {B b : Nat} {lb : List UInt8} {x14 x15 x16 x17 : Value} {W : World} {vs : List Value} (h : FpFour B lb x14 x15 x16 x17 W) (hb : Blk W b vs 121) (u0 u1 u2 u3 : Value) : FpFour B lb x14 x15 x16 x17 ((((W.setCell ⟨b, 0, none⟩ u0).setCell ⟨b, 1, none⟩ u1).setCell ⟨b, 2, none⟩ u2).setCell ⟨b, 3, none⟩ u3) := by
  have b1 := hb.set 0 u0
  have b2 := b1.set 1 u1
  have b3 := b2.set 2 u2
  exact ⟨(((h.h.store hb).store b1).store b2).store b3, (((h.z1.store hb).store b1).store b2).store b3, (((h.z2.store hb).store b1).store b2).store b3, (((h.z3.store hb).store b1).store b2).store b3, h.n1, h.n2, h.n3⟩
end Go.Proofs.YtlgablepckmogaaGreat
namespace Go.Port
open Go.RowKit
/-- The number of a sequence that the histogram k counts. -/
def valK (k : Nat) (s : Sq) : Int := if k = 1 then s.lit else if k = 2 then s.off + 3 else s.len - 3
def bumpK (c : List Int) (i : Nat) : List Int := c.set i (c.getD i 0 + 1)
def codeK (k : Nat) (s : Sq) : Nat := ecode (decide (k = 2)) (valK k s).toNat
def cntK (k : Nat) (l : List Sq) : List Int := l.foldl (fun c s => bumpK c (codeK k s)) (List.replicate (symN k) 0)
/-- The histograms of a plan. -/
def planC (bs : List UInt8) (l : List Sq) (k : Nat) : List Int := if k = 0 then histS (litsS bs l) else cntK k l
def offOk (s : Sq) : Bool := decide (1 ≤ s.off) && decide (s.off ≤ 134217728)
theorem cntK_snoc (k : Nat) (l : List Sq) (x : Sq) : cntK k (l ++ [x]) = bumpK (cntK k l) (codeK k x) := by
  unfold cntK
  rw [List.foldl_append]
  rfl
theorem bumpK_length (c : List Int) (i : Nat) : (bumpK c i).length = c.length := by simp [bumpK]
theorem cntK_length (k : Nat) (l : List Sq) : (cntK k l).length = symN k := by
  unfold cntK
  have : ∀ (l : List Sq) (c : List Int), (l.foldl (fun c s => bumpK c (codeK k s)) c).length = c.length := by
    intro l
    induction l with
    | nil => intro c; rfl
    | cons x r ih => intro c; rw [List.foldl_cons, ih, bumpK_length]
  rw [this, List.length_replicate]
theorem cntK_le (k : Nat) (l : List Sq) : ∀ x ∈ cntK k l, 0 ≤ x ∧ x ≤ l.length := by
  unfold cntK
  have : ∀ (l : List Sq) (c : List Int) (m : Nat), (∀ x ∈ c, 0 ≤ x ∧ x ≤ (m : Int)) → ∀ x ∈ l.foldl (fun c s => bumpK c (codeK k s)) c, 0 ≤ x ∧ x ≤ ((m + l.length : Nat) : Int) := by
    intro l
    induction l with
    | nil => intro c m h x hx; simpa using h x hx
    | cons y r ih =>
      intro c m h x hx
      rw [List.foldl_cons] at hx
      have := ih (bumpK c (codeK k y)) (m + 1) (fun z hz => by
        unfold bumpK at hz
        rcases List.mem_or_eq_of_mem_set hz with h1 | h1
        · have := h z h1; omega
        · have h2 : 0 ≤ c.getD (codeK k y) 0 ∧ c.getD (codeK k y) 0 ≤ (m : Int) := by
            rw [List.getD_eq_getElem?_getD]
            cases e : c[codeK k y]? with
            | none => simp
            | some u => exact h u (List.mem_of_getElem? e)
          omega) x hx
      simp only [List.length_cons]
      omega
  intro x hx
  have := this l (List.replicate (symN k) 0) 0 (fun y hy => by rw [(List.mem_replicate.1 hy).2]; simp) x hx
  simpa using this
theorem plan_seq {l : List Sq} {n : Int} (h : planEnd 0 l = some n) {s : Sq} {k : Nat} (hk : l[k]? = some s) : 0 ≤ s.lit ∧ s.lit ≤ 131072 ∧ 3 ≤ s.len ∧ s.len ≤ 131072 := by
  obtain ⟨hlt, e⟩ := List.getElem?_eq_some_iff.1 hk
  obtain ⟨h1, h2⟩ := lpl_of l 0 n (Int.le_refl _) h (l.take k) s (l.drop (k + 1)) (by rw [← e, ← List.drop_eq_getElem_cons hlt, List.take_append_drop])
  have h3 := linB_in h1
  omega
theorem planC_ok {bs : List UInt8} {l : List Sq} (hl : l.length ≤ 1000000) : ∀ k, k < 4 → HistOk k (planC bs l k) := by
  intro k hk
  unfold planC
  by_cases h0 : k = 0
  · subst h0
    rw [if_pos rfl]
    exact ⟨by rw [histS_length]; unfold symN; simp, histS_cnt _⟩
  · rw [if_neg h0]
    exact ⟨by rw [cntK_length]; exact Nat.le_refl _, fun x hx => by have := cntK_le k l x hx; unfold Cnt; omega⟩
theorem bumpK_at {c : List Int} {i : Nat} {x : Int} (h : c[i]? = some x) : (bumpK c i).map iv = (c.map iv).set i (.int .i64 (x + 1)) := by
  unfold bumpK
  rw [List.map_set, List.getD_eq_getElem?_getD, h]
  rfl
end Go.Port
namespace Go.Proofs.YtlgablepckmogaaGreat
open Go.RowKit Go.Port
/-- While the sequences are counted. -/
structure FpS (w : World) (lb : List UInt8) (b g14 g15 g16 g17 : Nat) (c1 c2 c3 : List Int) (W : World) : Prop where
  four : Blk W b [.slice (some ⟨g14, 0, none⟩) 256 256, .slice (some ⟨g15, 0, none⟩) 44 44, .slice (some ⟨g16, 0, none⟩) 28 28, .slice (some ⟨g17, 0, none⟩) 44 44] 121
  hist : Blk W g14 ((histS lb).map iv) 169
  r1 : Blk W g15 (c1.map iv) 3
  r2 : Blk W g16 (c2.map iv) 3
  r3 : Blk W g17 (c3.map iv) 3
  p : Blk W w.heap.size [.pointer none] 88
  e : Blk W (w.heap.size + 1) [.int .i64 0] 25
  low : Below w.heap.size w W
  n1 : g15 ≠ g16
  n2 : g15 ≠ g17
  n3 : g16 ≠ g17
  l1 : w.heap.size ≤ g15
  l2 : w.heap.size ≤ g16
  l3 : w.heap.size ≤ g17
section
variable {w : World} {lb : List UInt8} {b g14 g15 g16 g17 : Nat} {c1 c2 c3 : List Int} {W W' : World}
theorem FpS.grow (h : FpS w lb b g14 g15 g16 g17 c1 c2 c3 W) (hb : Below W.heap.size W W') : FpS w lb b g14 g15 g16 g17 c1 c2 c3 W' :=
  ⟨h.four.below hb h.four.lt, h.hist.below hb h.hist.lt, h.r1.below hb h.r1.lt, h.r2.below hb h.r2.lt, h.r3.below hb h.r3.lt, h.p.below hb h.p.lt, h.e.below hb h.e.lt, h.low.trans (hb.mono h.low.size), h.n1, h.n2, h.n3, h.l1, h.l2, h.l3⟩
theorem FpS.b1 (h : FpS w lb b g14 g15 g16 g17 c1 c2 c3 W) {i : Nat} {x : Int} (hx : c1[i]? = some x) : FpS w lb b g14 g15 g16 g17 (bumpK c1 i) c2 c3 (W.setCell ⟨g15, i, none⟩ (.int .i64 (x + 1))) :=
  ⟨h.four.other _ (blk_ne h.r1 h.four (by decide)), h.hist.other _ (blk_ne h.r1 h.hist (by decide)), by rw [bumpK_at hx]; exact h.r1.set i _, h.r2.other _ h.n1, h.r3.other _ h.n2, h.p.other _ (blk_ne h.r1 h.p (by decide)), h.e.other _ (blk_ne h.r1 h.e (by decide)), h.low.setCell (p := ⟨g15, i, none⟩) h.l1 _, h.n1, h.n2, h.n3, h.l1, h.l2, h.l3⟩
theorem FpS.b2 (h : FpS w lb b g14 g15 g16 g17 c1 c2 c3 W) {i : Nat} {x : Int} (hx : c2[i]? = some x) : FpS w lb b g14 g15 g16 g17 c1 (bumpK c2 i) c3 (W.setCell ⟨g16, i, none⟩ (.int .i64 (x + 1))) :=
  ⟨h.four.other _ (blk_ne h.r2 h.four (by decide)), h.hist.other _ (blk_ne h.r2 h.hist (by decide)), h.r1.other _ (Ne.symm h.n1), by rw [bumpK_at hx]; exact h.r2.set i _, h.r3.other _ h.n3, h.p.other _ (blk_ne h.r2 h.p (by decide)), h.e.other _ (blk_ne h.r2 h.e (by decide)), h.low.setCell (p := ⟨g16, i, none⟩) h.l2 _, h.n1, h.n2, h.n3, h.l1, h.l2, h.l3⟩
theorem FpS.b3 (h : FpS w lb b g14 g15 g16 g17 c1 c2 c3 W) {i : Nat} {x : Int} (hx : c3[i]? = some x) : FpS w lb b g14 g15 g16 g17 c1 c2 (bumpK c3 i) (W.setCell ⟨g17, i, none⟩ (.int .i64 (x + 1))) :=
  ⟨h.four.other _ (blk_ne h.r3 h.four (by decide)), h.hist.other _ (blk_ne h.r3 h.hist (by decide)), h.r1.other _ (Ne.symm h.n2), h.r2.other _ (Ne.symm h.n3), by rw [bumpK_at hx]; exact h.r3.set i _, h.p.other _ (blk_ne h.r3 h.p (by decide)), h.e.other _ (blk_ne h.r3 h.e (by decide)), h.low.setCell (p := ⟨g17, i, none⟩) h.l3 _, h.n1, h.n2, h.n3, h.l1, h.l2, h.l3⟩
end
/-- How a panic of FromPlan's body leaves it. -/
def FpPan (w : World) (n : Int) (D : List Deferred) (wr : World) : Exit → Act → World → Prop
  | .panic c, a, w' => c = [{ v := .iface 25 (.int .i64 n), recovered := false }] ∧ a.defers = D ∧ a.tmps[4]? = some (.pointer (some ⟨w.heap.size, 0, none⟩)) ∧ a.tmps[5]? = some (.pointer (some ⟨w.heap.size + 1, 0, none⟩)) ∧ Below wr.heap.size wr w'
  | _, _, _ => False
theorem FpPan.put {w wr : World} {n : Int} {D : List Deferred} {d : Nat} (hd : 5 < d) {v : Value} {c : List PanicEntry} {a : Act} {w' : World} (h : FpPan w n D wr (.panic c) (a.put (some d) v) w') : FpPan w n D wr (.panic c) a w' := by
  obtain ⟨h1, h2, h3, h4, h5⟩ := h
  refine ⟨h1, h2, ?_, ?_, h5⟩
  · rw [← h3]
    exact (Array.getElem?_setIfInBounds_ne (by omega)).symm
  · rw [← h4]
    exact (Array.getElem?_setIfInBounds_ne (by omega)).symm
theorem PrAt.other {w : World} {M : Nat} {C : Nat → List Int} (h : PrAt w M C) {b k : Nat} {vs : List Value} {t : TypeId} (hb : Blk w b vs t) (h1 : t ≠ 158) (h2 : t ≠ 156) (h3 : t ≠ 3) (u : Value) : PrAt (w.setCell ⟨b, k, none⟩ u) M C := by
  obtain ⟨R, V, e1, e2, e3⟩ := h.ex
  exact ⟨⟨R, V, e1.other u (blk_ne hb e1 h1), e2.other u (blk_ne hb e2 h2), e3.other hb h3 u⟩, h.ok⟩
theorem Cs.of_blk {w : World} {g : Nat} {vs : List Value} {t : TypeId} (h : Blk w g vs t) : Cs w (some ⟨g, 0, none⟩) vs := fun j u hu => ⟨g, 0, rfl, h.lt, by rw [Nat.zero_add]; exact h.cell hu⟩
theorem seq_cells {w : World} {a : Option Addr} {l : List Sq} (hc : Cs w a (l.flatMap lsqc)) {k : Nat} {s : Sq} (hk : l[k]? = some s) :
    ∃ b o, a = some ⟨b, o, none⟩ ∧ b < w.heap.size ∧ w.cell? ⟨b, o + k * 3, none⟩ = some (.int .i64 s.lit) ∧ w.cell? ⟨b, o + k * 3 + 1, none⟩ = some (.int .i64 s.len) ∧ w.cell? ⟨b, o + k * 3 + 2, none⟩ = some (.int .i64 s.off) := by
  have hl : ∀ (l : List Sq), (l.flatMap lsqc).length = l.length * 3 := by
    intro l
    induction l with
    | nil => rfl
    | cons x r ih => simp only [List.flatMap_cons, List.length_append, ih, List.length_cons, lsqc, List.length_nil]; omega
  obtain ⟨h1, h2⟩ := List.getElem?_eq_some_iff.1 hk
  have hlk : ((l.take k).flatMap lsqc).length = k * 3 := by rw [hl, List.length_take, Nat.min_eq_left (Nat.le_of_lt h1)]
  have e2 : l.flatMap lsqc = (l.take k).flatMap lsqc ++ (lsqc s ++ (l.drop (k + 1)).flatMap lsqc) := by
    conv => lhs; rw [← List.take_append_drop k l, List.drop_eq_getElem_cons h1, h2]
    rw [List.flatMap_append, List.flatMap_cons]
  have hg : ∀ j, j < 3 → (l.flatMap lsqc)[k * 3 + j]? = (lsqc s)[j]? := fun j hj => by
    rw [e2, List.getElem?_append_right (by omega), hlk, Nat.add_sub_cancel_left, List.getElem?_append_left (by simp [lsqc]; omega)]
  obtain ⟨b, o, e, hb, c0⟩ := hc (k * 3 + 0) (.int .i64 s.lit) (by rw [hg 0 (by decide)]; rfl)
  obtain ⟨_, _, e1, _, c1⟩ := hc (k * 3 + 1) (.int .i64 s.len) (by rw [hg 1 (by decide)]; rfl)
  rw [e] at e1; cases e1
  obtain ⟨_, _, e1, _, c2⟩ := hc (k * 3 + 2) (.int .i64 s.off) (by rw [hg 2 (by decide)]; rfl)
  rw [e] at e1; cases e1
  exact ⟨b, o, e, hb, c0, by rw [Nat.add_assoc]; exact c1, by rw [Nat.add_assoc]; exact c2⟩
set_option maxRecDepth 100000 in
set_option maxHeartbeats 8000000 in
theorem prfrom_ok (w : World) (a : Option Addr) (cl : Nat) (l : List Sq) (ad : Option Addr) (c : Nat) (bs : List UInt8) (h : PdAt w a cl l ad c bs) (hp : plitsO bs l = true) (ho : ∀ s ∈ l, offOk s = true) :
    Calls Tryz.prog 42 #[.slice ad bs.length c, .slice a l.length cl] w (fun e w' => ∃ M, e = .returned (.tuple #[.pointer (some ⟨M, 0, none⟩), .int .i64 0]) ∧ PrAt w' M (planC bs l) ∧ w.heap.size ≤ M ∧ Below w.heap.size w w') := by
  have hmk44 : ∀ W : World, (Instr.makeSlice 77 (.int .i64 44) (.int .i64 44)).run Tryz.prog W = .ok (.slice (some ⟨W.heap.size, 0, none⟩) 44 44) (W.alloc (.cells (List.replicate 44 (iv 0)).toArray 3)) := fun W => by
    rw [← show madeCells #[Value.int .i64 0] 44 = (List.replicate 44 (iv 0)).toArray from by kernel_rfl]
    exact run_make_row' (P := Tryz.prog) 77 3 (.int .i64 0) 8 Tryz.underlying77 Tryz.info_intN rfl .i64 .i64 44 (by decide) (by decide) W
  have hmk28 : ∀ W : World, (Instr.makeSlice 77 (.int .i64 28) (.int .i64 28)).run Tryz.prog W = .ok (.slice (some ⟨W.heap.size, 0, none⟩) 28 28) (W.alloc (.cells (List.replicate 28 (iv 0)).toArray 3)) := fun W => by
    rw [← show madeCells #[Value.int .i64 0] 28 = (List.replicate 28 (iv 0)).toArray from by kernel_rfl]
    exact run_make_row' (P := Tryz.prog) 77 3 (.int .i64 0) 8 Tryz.underlying77 Tryz.info_intN rfl .i64 .i64 28 (by decide) (by decide) W
  have HP1 := hid (show Blk ((w.alloc (.cells #[.pointer none] 88)).alloc (.cells #[.int .i64 0] 25)) w.heap.size [.pointer none] 88 from (Blk.newAt rfl).alloc _)
  have HE1 := hid (show Blk ((w.alloc (.cells #[.pointer none] 88)).alloc (.cells #[.int .i64 0] 25)) (w.heap.size + 1) [.int .i64 0] 25 from Blk.newAt (by simp))
  have HBl := hid (show Below w.heap.size w ((w.alloc (.cells #[.pointer none] 88)).alloc (.cells #[.int .i64 0] 25)) from (below_new w _).alloc (by simp) _)
  have HH := hid h
  have HLit := hid (fun W (hb : Below ((w.alloc (.cells #[.pointer none] 88)).alloc (.cells #[.int .i64 0] 25)).heap.size ((w.alloc (.cells #[.pointer none] 88)).alloc (.cells #[.int .i64 0] 25)) W) => prliterals_ok W a cl l ad c bs ((h.low HBl.out).low hb) hp)
  have hlm : (litsS bs l).length ≤ maxLen := by
    unfold plitsO at hp
    cases e : planEnd 0 l with
    | none => rw [e] at hp; cases hp
    | some n =>
      rw [e] at hp
      have h1 := litsS_len e (by simpa using hp)
      have h2 := h.small
      unfold maxLen
      omega
  have HLm := hid hlm
  obtain ⟨nE, hnE⟩ : ∃ n, planEnd 0 l = some n := by
    unfold plitsO at hp
    cases e : planEnd 0 l with
    | none => rw [e] at hp; cases hp
    | some n => exact ⟨n, rfl⟩
  have HPn := hid hnE
  have HOf := hid ho
  clear h hp hlm hnE ho
  obtain ⟨lb, hlb⟩ : ∃ lb, lb = litsS bs l := ⟨_, rfl⟩
  rw [← hlb] at HLit HLm
  have HLb := hid hlb
  clear hlb
  go_enter_defers Tryz.func42, Tryz.ntmps42
  go_wp2_with fail
  generalize (w.alloc (.cells #[.pointer none] 88)).alloc (.cells #[.int .i64 0] 25) = wB at *
  have HI0 := hid (show FpI wB lb false false false false false false false false false undef undef undef undef undef undef undef undef wB.drew from
    ⟨(Below.refl _ _).drew, fun h => (by cases h), fun h => (by cases h), fun h => (by cases h), fun h => (by cases h), fun h => (by cases h), fun h => (by cases h), fun h => (by cases h), fun h => (by cases h), fun h => (by cases h), fun h => (by cases h), fun h => (by cases h), fun h => (by cases h)⟩)
  refine wp_region_noPanic ?_
  refine wp_region_any (by kernel_rfl) ?_
  refine wpAny_take (i := 0) (v := .slice ad bs.length c) (by simp only [List.getElem?_toArray, List.getElem?_cons_zero]; rfl) (by kernel_rfl) (by kernel_rfl) (by kernel_rfl) (fun _ _ _ h => h) (Or.inl ⟨by rfl, fun W => by go_simp⟩) ?_
  simp only [Act.put, List.setIfInBounds_toArray, List.set_cons_zero, List.set_cons_succ]
  refine wpAny_take (i := 1) (v := .slice a l.length cl) (by simp only [List.getElem?_toArray, List.getElem?_cons_zero, List.getElem?_cons_succ]; rfl) (by kernel_rfl) (by kernel_rfl) (by kernel_rfl) (fun _ _ _ h => h) (Or.inl ⟨by rfl, fun W => by go_simp⟩) ?_
  simp only [Act.put, List.setIfInBounds_toArray, List.set_cons_zero, List.set_cons_succ]
  refine wpAny_inv (by kernel_rfl) (fun L a0 W => (L.getD 10 false = false ∧ L.getD 0 true = true ∧ L.getD 1 true = true ∧ ∃ v12 v13 v14 v15 v16 v17 v18 v6, a0 = { tmps := #[.slice ad bs.length c, .slice a l.length cl, undef, undef, .pointer (some ⟨w.heap.size, 0, none⟩), .pointer (some ⟨w.heap.size + 1, 0, none⟩), v6, undef, undef, .func (.func 60) #[] #[.pointer (some ⟨w.heap.size, 0, none⟩)], .slice ad bs.length c, .slice a l.length cl, v12, v13, v14, v15, v16, v17, v18, undef, undef, undef, undef, undef, undef, undef, undef, undef, undef, undef, undef, undef, undef, undef, undef, undef, undef, undef, undef, undef, undef, undef, undef, undef, undef, undef, undef, undef, undef, undef, undef, undef, undef, undef, undef, undef, undef, undef, undef], defers := [{ target := Target.fn (Fn.func 59) #[], args := #[.pointer (some ⟨w.heap.size + 1, 0, none⟩), .func (.func 60) #[] #[.pointer (some ⟨w.heap.size, 0, none⟩)]] }] } ∧ FpI wB lb (L.getD 2 false) (L.getD 3 false) (L.getD 4 false) (L.getD 5 false) (L.getD 6 false) (L.getD 7 false) (L.getD 8 false) (L.getD 9 false) false v12 v13 v14 v15 v16 v17 v18 v6 W) ∨ ((∀ i, L.getD i true = true) ∧ ∃ v12 v13 v14 v15 v16 v17 v18 b x14 x15 x16 x17, a0 = { tmps := #[.slice ad bs.length c, .slice a l.length cl, undef, undef, .pointer (some ⟨w.heap.size, 0, none⟩), .pointer (some ⟨w.heap.size + 1, 0, none⟩), .pointer (some ⟨b, 0, none⟩), undef, undef, .func (.func 60) #[] #[.pointer (some ⟨w.heap.size, 0, none⟩)], .slice ad bs.length c, .slice a l.length cl, v12, v13, v14, v15, v16, v17, v18, undef, undef, undef, undef, undef, undef, undef, undef, undef, undef, undef, undef, undef, undef, undef, undef, undef, undef, undef, undef, undef, undef, undef, undef, undef, undef, undef, undef, undef, undef, undef, undef, undef, undef, undef, undef, undef, undef, undef, undef], defers := [{ target := Target.fn (Fn.func 59) #[], args := #[.pointer (some ⟨w.heap.size + 1, 0, none⟩), .func (.func 60) #[] #[.pointer (some ⟨w.heap.size, 0, none⟩)]] }] } ∧ Below wB.heap.size wB W ∧ wB.heap.size ≤ b ∧ Blk W b [x14, x15, x16, x17] 121 ∧ FpFour wB.heap.size lb x14 x15 x16 x17 W)) ?_ ?_ _ _ _ _ (by rfl) (.inl ⟨rfl, rfl, rfl, _, _, _, _, _, _, _, _, rfl, HI0.out⟩) (by decide)
  · intro i o ho listed a' W hs hinv hnl hd K hK
    rcases hinv with ⟨hl10, h0, h1, v12, v13, v14, v15, v16, v17, v18, v6, rfl, hI⟩ | ⟨hall, _⟩
    rotate_left
    · rw [hall i] at hnl; cases hnl
    rcases i with _ | _ | _ | _ | _ | _ | _ | _ | _ | _ | _ | i
    · rw [h0] at hnl; cases hnl
    · have h1' : listed.getD (0 + 1) true = true := h1
      rw [h1'] at hnl; cases hnl
    · simp only [List.getElem?_toArray, List.getElem?_cons_zero, List.getElem?_cons_succ, Option.some.injEq, Nat.zero_add, Nat.reduceAdd] at ho
      subst ho
      rw [if_pos (by rfl)]
      go_simp
      go_at_call 62
      refine (HLit.out W hI.low).mono ?_
      rintro e W' ⟨v, rfl, hown, hb⟩
      refine hK _ _ (.inl ⟨(by rw [getD_set_ne' false (by decide)]; exact hl10), (by rw [getD_set_ne' true (by decide)]; exact h0), (by rw [getD_set_ne' true (by decide)]; exact h1), v, v13, v14, v15, v16, v17, v18, v6, rfl, ?_⟩)
      rw [getD_set_eq false (show 2 < listed.size by rw [hs]; decide), getD_set_ne' false (show 2 ≠ 3 by decide), getD_set_ne' false (show 2 ≠ 4 by decide), getD_set_ne' false (show 2 ≠ 5 by decide), getD_set_ne' false (show 2 ≠ 6 by decide), getD_set_ne' false (show 2 ≠ 7 by decide), getD_set_ne' false (show 2 ≠ 8 by decide), getD_set_ne' false (show 2 ≠ 9 by decide)]
      exact hI.did2 hb hown
    · simp only [List.getElem?_toArray, List.getElem?_cons_zero, List.getElem?_cons_succ, Option.some.injEq, Nat.zero_add, Nat.reduceAdd] at ho
      subst ho
      have d2 := hd { on := 2, ground := .data } (by simp) (by rfl)
      obtain ⟨a12, c12, rfl⟩ := own_slice (hI.f12 d2)
      rw [if_pos (by rfl)]
      go_simp
      refine hK _ _ (.inl ⟨(by rw [getD_set_ne' false (by decide)]; exact hl10), (by rw [getD_set_ne' true (by decide)]; exact h0), (by rw [getD_set_ne' true (by decide)]; exact h1), .slice a12 lb.length c12, .slice (some ⟨W.heap.size, 0, none⟩) 1 1, v14, v15, v16, v17, v18, v6, rfl, ?_⟩)
      rw [getD_set_eq false (show 3 < listed.size by rw [hs]; decide), getD_set_ne' false (show 3 ≠ 2 by decide), getD_set_ne' false (show 3 ≠ 4 by decide), getD_set_ne' false (show 3 ≠ 5 by decide), getD_set_ne' false (show 3 ≠ 6 by decide), getD_set_ne' false (show 3 ≠ 7 by decide), getD_set_ne' false (show 3 ≠ 8 by decide), getD_set_ne' false (show 3 ≠ 9 by decide)]
      exact hI.did3 d2
    · simp only [List.getElem?_toArray, List.getElem?_cons_zero, List.getElem?_cons_succ, Option.some.injEq, Nat.zero_add, Nat.reduceAdd] at ho
      subst ho
      have d3 := hd { on := 3, ground := .data } (by simp) (by rfl)
      obtain ⟨b, u, rfl, hbu, hou⟩ := hI.f13 d3
      obtain ⟨au, cu, rfl⟩ := own_slice hou
      have hcu := (Sl.of_owns hou).open
      obtain ⟨a9, c9, e9, _, _, _, hcs9⟩ := hcu
      cases e9
      rw [if_pos (by rfl)]
      go_simp
      go_at_call 61
      refine (hist_one ⟨b, 0, none⟩ 1 au lb.length cu lb W rfl HLm.out (hbu.cell (k := 0) rfl) (fun j u hu => by obtain ⟨b2, o2, e1, e2, e3⟩ := hcs9 j u (by simpa using hu); exact ⟨b2, o2, e1, e2, e3⟩)).mono ?_
      rintro e W' ⟨v, rfl, b4, rfl, hbk, hb⟩
      refine hK _ _ (.inl ⟨(by rw [getD_set_ne' false (by decide)]; exact hl10), (by rw [getD_set_ne' true (by decide)]; exact h0), (by rw [getD_set_ne' true (by decide)]; exact h1), v12, .slice (some ⟨b, 0, none⟩) 1 1, .slice (some ⟨b4, 0, none⟩) 256 256, v15, v16, v17, v18, v6, rfl, ?_⟩)
      rw [getD_set_eq false (show 4 < listed.size by rw [hs]; decide), getD_set_ne' false (show 4 ≠ 2 by decide), getD_set_ne' false (show 4 ≠ 3 by decide), getD_set_ne' false (show 4 ≠ 5 by decide), getD_set_ne' false (show 4 ≠ 6 by decide), getD_set_ne' false (show 4 ≠ 7 by decide), getD_set_ne' false (show 4 ≠ 8 by decide), getD_set_ne' false (show 4 ≠ 9 by decide)]
      exact hI.did4 hb ⟨b4, rfl, hbk⟩
    · simp only [List.getElem?_toArray, List.getElem?_cons_zero, List.getElem?_cons_succ, Option.some.injEq, Nat.zero_add, Nat.reduceAdd] at ho
      subst ho
      rw [if_pos (by rfl)]
      go_simp
      refine hK _ _ (.inl ⟨(by rw [getD_set_ne' false (by decide)]; exact hl10), (by rw [getD_set_ne' true (by decide)]; exact h0), (by rw [getD_set_ne' true (by decide)]; exact h1), v12, v13, v14, .slice (some ⟨W.heap.size, 0, none⟩) 44 44, v16, v17, v18, v6, rfl, ?_⟩)
      rw [getD_set_eq false (show 5 < listed.size by rw [hs]; decide), getD_set_ne' false (show 5 ≠ 2 by decide), getD_set_ne' false (show 5 ≠ 3 by decide), getD_set_ne' false (show 5 ≠ 4 by decide), getD_set_ne' false (show 5 ≠ 6 by decide), getD_set_ne' false (show 5 ≠ 7 by decide), getD_set_ne' false (show 5 ≠ 8 by decide), getD_set_ne' false (show 5 ≠ 9 by decide)]
      exact hI.did5
    · simp only [List.getElem?_toArray, List.getElem?_cons_zero, List.getElem?_cons_succ, Option.some.injEq, Nat.zero_add, Nat.reduceAdd] at ho
      subst ho
      rw [if_pos (by rfl)]
      go_simp
      refine hK _ _ (.inl ⟨(by rw [getD_set_ne' false (by decide)]; exact hl10), (by rw [getD_set_ne' true (by decide)]; exact h0), (by rw [getD_set_ne' true (by decide)]; exact h1), v12, v13, v14, v15, .slice (some ⟨W.heap.size, 0, none⟩) 28 28, v17, v18, v6, rfl, ?_⟩)
      rw [getD_set_eq false (show 6 < listed.size by rw [hs]; decide), getD_set_ne' false (show 6 ≠ 2 by decide), getD_set_ne' false (show 6 ≠ 3 by decide), getD_set_ne' false (show 6 ≠ 4 by decide), getD_set_ne' false (show 6 ≠ 5 by decide), getD_set_ne' false (show 6 ≠ 7 by decide), getD_set_ne' false (show 6 ≠ 8 by decide), getD_set_ne' false (show 6 ≠ 9 by decide)]
      exact hI.did6
    · simp only [List.getElem?_toArray, List.getElem?_cons_zero, List.getElem?_cons_succ, Option.some.injEq, Nat.zero_add, Nat.reduceAdd] at ho
      subst ho
      rw [if_pos (by rfl)]
      go_simp
      refine hK _ _ (.inl ⟨(by rw [getD_set_ne' false (by decide)]; exact hl10), (by rw [getD_set_ne' true (by decide)]; exact h0), (by rw [getD_set_ne' true (by decide)]; exact h1), v12, v13, v14, v15, v16, .slice (some ⟨W.heap.size, 0, none⟩) 44 44, v18, v6, rfl, ?_⟩)
      rw [getD_set_eq false (show 7 < listed.size by rw [hs]; decide), getD_set_ne' false (show 7 ≠ 2 by decide), getD_set_ne' false (show 7 ≠ 3 by decide), getD_set_ne' false (show 7 ≠ 4 by decide), getD_set_ne' false (show 7 ≠ 5 by decide), getD_set_ne' false (show 7 ≠ 6 by decide), getD_set_ne' false (show 7 ≠ 8 by decide), getD_set_ne' false (show 7 ≠ 9 by decide)]
      exact hI.did7
    · simp only [List.getElem?_toArray, List.getElem?_cons_zero, List.getElem?_cons_succ, Option.some.injEq, Nat.zero_add, Nat.reduceAdd] at ho
      subst ho
      have d4 := hd { on := 4, ground := .data } (by simp) (by rfl)
      have d5 := hd { on := 5, ground := .data } (by simp) (by rfl)
      have d6 := hd { on := 6, ground := .data } (by simp) (by rfl)
      have d7 := hd { on := 7, ground := .data } (by simp) (by rfl)
      obtain ⟨g14, e14, _⟩ := hI.f14 d4
      obtain ⟨g15, e15, _⟩ := hI.f15 d5
      obtain ⟨g16, e16, _⟩ := hI.f16 d6
      obtain ⟨g17, e17, _⟩ := hI.f17 d7
      subst e14 e15 e16 e17
      rw [if_pos (by rfl)]
      go_simp
      refine hK _ _ (.inl ⟨(by rw [getD_set_ne' false (by decide)]; exact hl10), (by rw [getD_set_ne' true (by decide)]; exact h0), (by rw [getD_set_ne' true (by decide)]; exact h1), v12, v13, .slice (some ⟨g14, 0, none⟩) 256 256, .slice (some ⟨g15, 0, none⟩) 44 44, .slice (some ⟨g16, 0, none⟩) 28 28, .slice (some ⟨g17, 0, none⟩) 44 44, .agg #[.slice (some ⟨g14, 0, none⟩) 256 256, .slice (some ⟨g15, 0, none⟩) 44 44, .slice (some ⟨g16, 0, none⟩) 28 28, .slice (some ⟨g17, 0, none⟩) 44 44], v6, rfl, ?_⟩)
      rw [getD_set_eq false (show 8 < listed.size by rw [hs]; decide), getD_set_ne' false (show 8 ≠ 2 by decide), getD_set_ne' false (show 8 ≠ 3 by decide), getD_set_ne' false (show 8 ≠ 4 by decide), getD_set_ne' false (show 8 ≠ 5 by decide), getD_set_ne' false (show 8 ≠ 6 by decide), getD_set_ne' false (show 8 ≠ 7 by decide), getD_set_ne' false (show 8 ≠ 9 by decide)]
      exact hI.did8 d4 d5 d6 d7
    · simp only [List.getElem?_toArray, List.getElem?_cons_zero, List.getElem?_cons_succ, Option.some.injEq, Nat.zero_add, Nat.reduceAdd] at ho
      subst ho
      rw [if_pos (by rfl)]
      go_simp
      refine hK _ _ (.inl ⟨(by rw [getD_set_ne' false (by decide)]; exact hl10), (by rw [getD_set_ne' true (by decide)]; exact h0), (by rw [getD_set_ne' true (by decide)]; exact h1), v12, v13, v14, v15, v16, v17, v18, .pointer (some ⟨W.heap.size, 0, none⟩), rfl, ?_⟩)
      rw [getD_set_eq false (show 9 < listed.size by rw [hs]; decide), getD_set_ne' false (show 9 ≠ 2 by decide), getD_set_ne' false (show 9 ≠ 3 by decide), getD_set_ne' false (show 9 ≠ 4 by decide), getD_set_ne' false (show 9 ≠ 5 by decide), getD_set_ne' false (show 9 ≠ 6 by decide), getD_set_ne' false (show 9 ≠ 7 by decide), getD_set_ne' false (show 9 ≠ 8 by decide)]
      exact hI.did9 rfl
    · simp only [List.getElem?_toArray, List.getElem?_cons_zero, List.getElem?_cons_succ, Option.some.injEq, Nat.zero_add, Nat.reduceAdd] at ho
      subst ho
      have p0 := hd { on := 0, ground := .phase } (by simp) (by rfl)
      have p1 := hd { on := 1, ground := .phase } (by simp) (by rfl)
      have p2 := hd { on := 2, ground := .phase } (by simp) (by rfl)
      have p3 := hd { on := 3, ground := .phase } (by simp) (by rfl)
      have p4 := hd { on := 4, ground := .phase } (by simp) (by rfl)
      have p5 := hd { on := 5, ground := .phase } (by simp) (by rfl)
      have p6 := hd { on := 6, ground := .phase } (by simp) (by rfl)
      have p7 := hd { on := 7, ground := .phase } (by simp) (by rfl)
      have p8 := hd { on := 8, ground := .phase } (by simp) (by rfl)
      have p9 := hd { on := 9, ground := .phase } (by simp) (by rfl)
      obtain ⟨x14, x15, x16, x17, rfl, hF⟩ := hI.f18 p8
      obtain ⟨b, rfl, hbB, hbk⟩ := hI.f6 p9 rfl
      have y0 := hbk.cell (k := 0) rfl
      have y1 := hbk.cell (k := 1) rfl
      have y2 := hbk.cell (k := 2) rfl
      have y3 := hbk.cell (k := 3) rfl
      have z0 := hbk.frozen 0
      have z1 := hbk.frozen 1
      have z2 := hbk.frozen 2
      have z3 := hbk.frozen 3
      have HBk := hid (show Blk ((((W.setCell ⟨b, 0, none⟩ x14).setCell ⟨b, 1, none⟩ x15).setCell ⟨b, 2, none⟩ x16).setCell ⟨b, 3, none⟩ x17) b [x14, x15, x16, x17] 121 from (((hbk.set 0 x14).set 1 x15).set 2 x16).set 3 x17)
      have HLw := hid ((((hI.low.setCell (p := ⟨b, 0, none⟩) hbB x14).setCell (p := ⟨b, 1, none⟩) hbB x15).setCell (p := ⟨b, 2, none⟩) hbB x16).setCell (p := ⟨b, 3, none⟩) hbB x17)
      have HFo := hid (hF.store4 hbk x14 x15 x16 x17)
      obtain ⟨s14, s15, s16, s17⟩ := hF.forms
      obtain ⟨g14, rfl⟩ := s14
      obtain ⟨g15, rfl⟩ := s15
      obtain ⟨g16, rfl⟩ := s16
      obtain ⟨g17, rfl⟩ := s17
      rw [if_pos (by rfl)]
      go_simp
      refine hK _ _ (.inr ⟨fun i => ?_, v12, v13, v14, v15, v16, v17, _, b, _, _, _, _, rfl, HLw.out, hbB, HBk.out, HFo.out⟩)
      by_cases e10 : i = 10
      · subst e10; exact getD_set_eq true (by rw [hs]; decide)
      · rw [getD_set_ne' true (by omega)]
        rcases i with _ | _ | _ | _ | _ | _ | _ | _ | _ | _ | _ | i
        · exact h0
        · exact h1
        · exact getD_tf p2
        · exact getD_tf p3
        · exact getD_tf p4
        · exact getD_tf p5
        · exact getD_tf p6
        · exact getD_tf p7
        · exact getD_tf p8
        · exact getD_tf p9
        · exact absurd rfl e10
        · rw [Array.getD_eq_getD_getElem?, Array.getElem?_eq_none (by rw [hs]; simp)]; rfl
    · simp at ho
  · intro listed a' W hs hinv hall
    rcases hinv with ⟨hl10, _⟩ | ⟨_, v12, v13, v14, v15, v16, v17, v18, b, x14, x15, x16, x17, rfl, hlw, hbB, hbk, hF⟩
    · have h10 := getD_tf2 (hall 10) (show 10 < listed.size by rw [hs]; decide)
      rw [hl10] at h10; cases h10
    refine NoPanic.normal ?_
    obtain ⟨g14, g15, g16, g17, e14, e15, e16, e17, FS⟩ : ∃ g14 g15 g16 g17, x14 = .slice (some ⟨g14, 0, none⟩) 256 256 ∧ x15 = .slice (some ⟨g15, 0, none⟩) 44 44 ∧ x16 = .slice (some ⟨g16, 0, none⟩) 28 28 ∧ x17 = .slice (some ⟨g17, 0, none⟩) 44 44 ∧
        FpS w lb b g14 g15 g16 g17 (cntK 1 (l.take 0)) (cntK 2 (l.take 0)) (cntK 3 (l.take 0)) W := by
      obtain ⟨⟨g14, e14, h14⟩, ⟨g15, e15, l15, h15⟩, ⟨g16, e16, l16, h16⟩, ⟨g17, e17, l17, h17⟩, n1, n2, n3⟩ := hF
      refine ⟨g14, g15, g16, g17, e14, e15, e16, e17, ⟨by rw [← e14, ← e15, ← e16, ← e17]; exact hbk, h14, h15, h16, h17, HP1.out.below hlw HP1.out.lt, HE1.out.below hlw HE1.out.lt, HBl.out.trans (hlw.mono HBl.out.size), fun e => n1 (by rw [e15, e16, e]; try rfl), fun e => n2 (by rw [e15, e17, e]), fun e => n3 (by rw [e16, e17, e]; try rfl), Nat.le_trans HBl.out.size l15, Nat.le_trans HBl.out.size l16, Nat.le_trans HBl.out.size l17⟩⟩
    have HF0 := hid FS
    subst e14 e15 e16 e17
    have hlc := HH.out.hlc
    have hll := HH.out.hl
    have hlcI : (l.length : Int) ≤ (cl : Int) := by omega
    have hllI : (l.length : Int) ≤ 40000 := by omega
    clear hlw hbB hbk hF FS hlc hll hall hs
    go_wp2_with fail
    go_loopw [21] (fun i wr => ∃ k : Nat, k ≤ l.length ∧ i = .int .i64 (k : Int) ∧ FpS w lb b g14 g15 g16 g17 (cntK 1 (l.take k)) (cntK 2 (l.take k)) (cntK 3 (l.take k)) wr) (fun i _ => l.length - (intOf i).toNat)
    case atStart => exact ⟨0, Nat.zero_le _, rfl, HF0.out⟩
    case round =>
      obtain ⟨k, hk, rfl, hS⟩ := hrel
      have HS := hid hS
      by_cases hlt : k < l.length
      · obtain ⟨s, hsk⟩ : ∃ s, l[k]? = some s := ⟨l[k], by simp [hlt]⟩
        obtain ⟨hq1, hq2, hq3, hq4⟩ := plan_seq HPn.out hsk
        obtain ⟨bl, o, rfl, hbl, y0, y1, y2⟩ := seq_cells (HH.out.cells.low HS.out.low) hsk
        obtain ⟨lit, len, off⟩ := s
        dsimp only at hq1 hq2 hq3 hq4 y0 y1 y2
        have hllk : (l.take k).length ≤ 40000 := by have := HH.out.hl; rw [List.length_take]; omega
        have hltI : (k : Int) < (l.length : Int) := by omega
        have HLt := hid hlt
        have HBx := hid (below_new wr (.cells #[.int .i64 lit, .int .i64 len, .int .i64 off] 43))
        have HSq0 := hid (Blk.new wr [.int .i64 lit, .int .i64 len, .int .i64 off] 43)
        have hof := HOf.out _ (List.mem_of_getElem? hsk)
        unfold offOk at hof
        simp only [Bool.and_eq_true, decide_eq_true_eq] at hof
        obtain ⟨ho1, ho2⟩ := hof
        have hco1 : codeS false lit = some (codeK 1 ⟨lit, len, off⟩) := by unfold codeS; rw [if_pos (by unfold eleast ebelow; simp; omega)]; rfl
        have hco2 : codeS true (off + 3) = some (codeK 2 ⟨lit, len, off⟩) := by unfold codeS; rw [if_pos (by unfold eleast ebelow; simp; omega)]; rfl
        have hco3 : codeS false (len - 3) = some (codeK 3 ⟨lit, len, off⟩) := by unfold codeS; rw [if_pos (by unfold eleast ebelow; simp; omega)]; rfl
        have HFar : Hid (∀ W, Calls Tryz.prog 65 #[.int .i64 off] W (RetV W (.int .i64 (off + 3)))) := hid (fun W => by
          have := prfar_any off W (by omega) (by omega)
          rw [if_neg (by omega)] at this
          exact this)
        have hw3 : IntKind.i64.wrap (len - 3) = len - 3 := by rw [IntKind.wrap_i64]; omega
        have hcl1 : codeK 1 ⟨lit, len, off⟩ < symN 1 := by
          have := codeS_lt hco1
          rw [symN_codes 1 (by decide)]
          exact this
        obtain ⟨x1, hxi1⟩ : ∃ x, (cntK 1 (l.take k))[codeK 1 ⟨lit, len, off⟩]? = some x := ⟨(cntK 1 (l.take k))[codeK 1 ⟨lit, len, off⟩]'(by rw [cntK_length]; exact hcl1), List.getElem?_eq_getElem _⟩
        have hxb1 := cntK_le 1 (l.take k) x1 (List.mem_of_getElem? hxi1)
        have hxw1 : IntKind.i64.wrap (x1 + 1) = x1 + 1 := by rw [IntKind.wrap_i64]; omega
        have hsn1 : cntK 1 (l.take (k + 1)) = bumpK (cntK 1 (l.take k)) (codeK 1 ⟨lit, len, off⟩) := by
          obtain ⟨_, e⟩ := List.getElem?_eq_some_iff.1 hsk
          rw [List.take_succ_eq_append_getElem hlt, e, cntK_snoc]
        have HSn1 := hid hsn1
        have HXi1 := hid hxi1
        have hiI1 : (codeK 1 ⟨lit, len, off⟩ : Int) < 44 := by have : symN 1 = 44 := rfl; omega
        have HCo1 : Hid (∀ W, Calls Tryz.prog 63 #[.func (.func 66) #[] #[], .int .i64 (lit)] W (RetV W (.int .i64 (codeK 1 ⟨lit, len, off⟩ : Nat)))) := hid (fun W => by
          have := prcoded_any false (lit) W
          rw [show codeS false (lit) = some (codeK 1 ⟨lit, len, off⟩) from hco1] at this
          exact this)
        clear hsn1 hxi1 hcl1 hxb1
        generalize codeK 1 ⟨lit, len, off⟩ = i1 at *
        have hcl2 : codeK 2 ⟨lit, len, off⟩ < symN 2 := by
          have := codeS_lt hco2
          rw [symN_codes 2 (by decide)]
          exact this
        obtain ⟨x2, hxi2⟩ : ∃ x, (cntK 2 (l.take k))[codeK 2 ⟨lit, len, off⟩]? = some x := ⟨(cntK 2 (l.take k))[codeK 2 ⟨lit, len, off⟩]'(by rw [cntK_length]; exact hcl2), List.getElem?_eq_getElem _⟩
        have hxb2 := cntK_le 2 (l.take k) x2 (List.mem_of_getElem? hxi2)
        have hxw2 : IntKind.i64.wrap (x2 + 1) = x2 + 1 := by rw [IntKind.wrap_i64]; omega
        have hsn2 : cntK 2 (l.take (k + 1)) = bumpK (cntK 2 (l.take k)) (codeK 2 ⟨lit, len, off⟩) := by
          obtain ⟨_, e⟩ := List.getElem?_eq_some_iff.1 hsk
          rw [List.take_succ_eq_append_getElem hlt, e, cntK_snoc]
        have HSn2 := hid hsn2
        have HXi2 := hid hxi2
        have hiI2 : (codeK 2 ⟨lit, len, off⟩ : Int) < 28 := by have : symN 2 = 28 := rfl; omega
        have HCo2 : Hid (∀ W, Calls Tryz.prog 63 #[.func (.func 64) #[] #[], .int .i64 (off + 3)] W (RetV W (.int .i64 (codeK 2 ⟨lit, len, off⟩ : Nat)))) := hid (fun W => by
          have := prcoded_any true (off + 3) W
          rw [show codeS true (off + 3) = some (codeK 2 ⟨lit, len, off⟩) from hco2] at this
          exact this)
        clear hsn2 hxi2 hcl2 hxb2
        generalize codeK 2 ⟨lit, len, off⟩ = i2 at *
        have hcl3 : codeK 3 ⟨lit, len, off⟩ < symN 3 := by
          have := codeS_lt hco3
          rw [symN_codes 3 (by decide)]
          exact this
        obtain ⟨x3, hxi3⟩ : ∃ x, (cntK 3 (l.take k))[codeK 3 ⟨lit, len, off⟩]? = some x := ⟨(cntK 3 (l.take k))[codeK 3 ⟨lit, len, off⟩]'(by rw [cntK_length]; exact hcl3), List.getElem?_eq_getElem _⟩
        have hxb3 := cntK_le 3 (l.take k) x3 (List.mem_of_getElem? hxi3)
        have hxw3 : IntKind.i64.wrap (x3 + 1) = x3 + 1 := by rw [IntKind.wrap_i64]; omega
        have hsn3 : cntK 3 (l.take (k + 1)) = bumpK (cntK 3 (l.take k)) (codeK 3 ⟨lit, len, off⟩) := by
          obtain ⟨_, e⟩ := List.getElem?_eq_some_iff.1 hsk
          rw [List.take_succ_eq_append_getElem hlt, e, cntK_snoc]
        have HSn3 := hid hsn3
        have HXi3 := hid hxi3
        have hiI3 : (codeK 3 ⟨lit, len, off⟩ : Int) < 44 := by have : symN 3 = 44 := rfl; omega
        have HCo3 : Hid (∀ W, Calls Tryz.prog 63 #[.func (.func 66) #[] #[], .int .i64 (len - 3)] W (RetV W (.int .i64 (codeK 3 ⟨lit, len, off⟩ : Nat)))) := hid (fun W => by
          have := prcoded_any false (len - 3) W
          rw [show codeS false (len - 3) = some (codeK 3 ⟨lit, len, off⟩) from hco3] at this
          exact this)
        clear hsn3 hxi3 hcl3 hxb3
        generalize codeK 3 ⟨lit, len, off⟩ = i3 at *
        have HS1 := hid (HS.out.grow HBx.out)
        clear hbl hsk hco1 hco2 hco3 hq1 hq2 hq3 hq4 hllk hlt hk hS
        go_wp2_with fail
        clear y0 y1 y2
        obtain ⟨sB, hsB⟩ : ∃ sB, sB = wr.heap.size := ⟨_, rfl⟩
        rw [← hsB] at HSq0 ⊢
        have HSq2 := HSq0
        generalize wr.alloc (.cells #[.int .i64 lit, .int .i64 len, .int .i64 off] 43) = ws at *
        clear HBx hsB
        refine wp_region_noPanic ?_
        refine wp_region_held_drew (S := fun W' => Blk W' b [.slice (some ⟨g14, 0, none⟩) 256 256, .slice (some ⟨g15, 0, none⟩) 44 44, .slice (some ⟨g16, 0, none⟩) 28 28, .slice (some ⟨g17, 0, none⟩) 44 44] 121 ∧ Blk W' sB [.int .i64 lit, .int .i64 len, .int .i64 off] 43) (by kernel_rfl) ⟨HS1.out.four, HSq2.out⟩ (fun hHeld => ?_)
        refine wpAnyH_take (i := 0) (v := .pointer (some ⟨b, 2, none⟩)) (by simp only [List.getElem?_toArray, List.getElem?_cons_zero]; rfl) (by kernel_rfl) (by kernel_rfl) (by kernel_rfl) (fun _ _ _ h => h) (Or.inl ⟨by rfl, fun W hSw => ?_⟩) (by assumption) ?_
        · clear hSw
          go_simp
        simp only [Act.put, List.setIfInBounds_toArray, List.set_cons_zero, List.set_cons_succ]
        refine wpAnyH_take (i := 1) (v := .slice (some ⟨g16, 0, none⟩) 28 28) (by simp only [List.getElem?_toArray, List.getElem?_cons_zero, List.getElem?_cons_succ]; rfl) (by kernel_rfl) (by kernel_rfl) (by kernel_rfl) (fun _ _ _ h => h) (Or.inl ⟨by rfl, fun W hSw => ?_⟩) (by assumption) ?_
        · have hcw := hSw.1.cell (k := 2) rfl
          go_simp
        simp only [Act.put, List.setIfInBounds_toArray, List.set_cons_zero, List.set_cons_succ]
        refine wpAnyH_take (i := 2) (v := .pointer (some ⟨sB, 2, none⟩)) (by simp only [List.getElem?_toArray, List.getElem?_cons_zero, List.getElem?_cons_succ]; rfl) (by kernel_rfl) (by kernel_rfl) (by kernel_rfl) (fun _ _ _ h => h) (Or.inl ⟨by rfl, fun W hSw => ?_⟩) (by assumption) ?_
        · clear hSw
          go_simp
        simp only [Act.put, List.setIfInBounds_toArray, List.set_cons_zero, List.set_cons_succ]
        refine wpAnyH_take (i := 3) (v := .int .i64 off) (by simp only [List.getElem?_toArray, List.getElem?_cons_zero, List.getElem?_cons_succ]; rfl) (by kernel_rfl) (by kernel_rfl) (by kernel_rfl) (fun _ _ _ h => h) (Or.inl ⟨by rfl, fun W hSw => ?_⟩) (by assumption) ?_
        · have hcw := hSw.2.cell (k := 2) rfl
          go_simp
        simp only [Act.put, List.setIfInBounds_toArray, List.set_cons_zero, List.set_cons_succ]
        refine wpAnyH_ready (rs := [4]) (by kernel_rfl) (by simp) ?_
        refine AllReadyH.cons (by simp only [List.getElem?_toArray, List.getElem?_cons_zero, List.getElem?_cons_succ]; rfl) (fun K hK => ?_) AllReadyH.nil
        rw [if_pos (by rfl)]
        go_simp
        go_at_call 65
        refine (HFar.out _).mono ?_
        rintro e w4 ⟨rfl, hb4⟩
        have HBa := hid ((show Below ws.heap.size ws ws.drew from (Below.refl _ _).drew).trans hb4)
        dsimp only
        refine hK.out _ _ ⟨(HS1.out.grow HBa.out).four, HSq2.out.below HBa.out HSq2.out.lt⟩ (fun _ => ?_)
        clear hK K hb4
        refine wpAnyH_ready (rs := [5]) (by kernel_rfl) (by simp) ?_
        refine AllReadyH.cons (by simp only [List.getElem?_toArray, List.getElem?_cons_zero, List.getElem?_cons_succ]; rfl) (fun K hK => ?_) AllReadyH.nil
        rw [if_pos (by rfl)]
        go_simp
        go_at_call 63
        refine (HCo2.out _).mono ?_
        rintro e w5 ⟨rfl, hb5⟩
        have HBc := hid (HBa.out.trans (hb5.mono HBa.out.size))
        dsimp only
        refine hK.out _ _ ⟨(HS1.out.grow HBc.out).four, HSq2.out.below HBc.out HSq2.out.lt⟩ (fun _ => ?_)
        clear hK K hb5
        have HT2 := hid (HS1.out.grow HBc.out)
        have HSr2 := hid (HSq2.out.below HBc.out HSq2.out.lt)
        have hcel := HT2.out.r2.cell (k := i2) (u := .int .i64 x2) (by rw [List.getElem?_map, HXi2.out]; rfl)
        have hcez := HT2.out.r2.frozen i2
        refine wpAnyH_take (i := 6) (v := .pointer (some ⟨g16, i2, none⟩)) (by simp only [List.getElem?_toArray, List.getElem?_cons_zero, List.getElem?_cons_succ]; rfl) (by kernel_rfl) (by kernel_rfl) (by kernel_rfl) (fun _ _ _ h => h) (Or.inl ⟨by rfl, fun W hSw => ?_⟩) (by assumption) ?_
        · clear hSw
          go_simp
        simp only [Act.put, List.setIfInBounds_toArray, List.set_cons_zero, List.set_cons_succ]
        refine wpAnyH_ready (rs := [7]) (by kernel_rfl) (by simp) ?_
        refine AllReadyH.cons (by simp only [List.getElem?_toArray, List.getElem?_cons_zero, List.getElem?_cons_succ]; rfl) (fun K hK => ?_) AllReadyH.nil
        rw [if_pos (by rfl)]
        go_simp
        refine hK.out _ _ ⟨HT2.out.four, HSr2.out⟩ (fun _ => ?_)
        clear hK K
        refine wpAnyH_take (i := 8) (v := .int .i64 (x2 + 1)) (by simp only [List.getElem?_toArray, List.getElem?_cons_zero, List.getElem?_cons_succ]; rfl) (by kernel_rfl) (by kernel_rfl) (by kernel_rfl) (fun _ _ _ h => h) (Or.inl ⟨by rfl, fun W hSw => ?_⟩) (by assumption) ?_
        · clear hSw
          go_simp
        simp only [Act.put, List.setIfInBounds_toArray, List.set_cons_zero, List.set_cons_succ]
        refine wpAnyH_take (i := 9) (v := .pointer (some ⟨g16, i2, none⟩)) (by simp only [List.getElem?_toArray, List.getElem?_cons_zero, List.getElem?_cons_succ]; rfl) (by kernel_rfl) (by kernel_rfl) (by kernel_rfl) (fun _ _ _ h => h) (Or.inl ⟨by rfl, fun W hSw => ?_⟩) (by assumption) ?_
        · clear hSw
          go_simp
        simp only [Act.put, List.setIfInBounds_toArray, List.set_cons_zero, List.set_cons_succ]
        have HU2 := hid (HT2.out.b2 HXi2.out)
        have HSs2 := hid (HSr2.out.other (a := ⟨g16, i2, none⟩) (.int .i64 (x2 + 1)) (blk_ne HT2.out.r2 HSr2.out (by decide)))
        refine wpAnyH_ready (rs := [10]) (by kernel_rfl) (by simp) ?_
        refine AllReadyH.cons (by simp only [List.getElem?_toArray, List.getElem?_cons_zero, List.getElem?_cons_succ]; rfl) (fun K hK => ?_) AllReadyH.nil
        rw [if_pos (by rfl)]
        go_simp
        refine hK.out _ _ ⟨HU2.out.four, HSs2.out⟩ (fun _ => ?_)
        clear hK K
        refine wpAnyH_done (by kernel_rfl) ?_ _
        refine NoPanic.normal ?_
        clear hcel hcez HBc HT2 HSr2
        generalize w5.setCell ⟨g16, i2, none⟩ (.int .i64 (x2 + 1)) = wn2 at *
        go_wp2_with fail
        have HSq1 := HSs2
        refine wp_region_noPanic ?_
        refine wp_region_held_drew (S := fun W' => Blk W' b [.slice (some ⟨g14, 0, none⟩) 256 256, .slice (some ⟨g15, 0, none⟩) 44 44, .slice (some ⟨g16, 0, none⟩) 28 28, .slice (some ⟨g17, 0, none⟩) 44 44] 121 ∧ Blk W' sB [.int .i64 lit, .int .i64 len, .int .i64 off] 43) (by kernel_rfl) ⟨HU2.out.four, HSq1.out⟩ (fun hHeld => ?_)
        refine wpAnyH_take (i := 0) (v := .pointer (some ⟨b, 1, none⟩)) (by simp only [List.getElem?_toArray, List.getElem?_cons_zero]; rfl) (by kernel_rfl) (by kernel_rfl) (by kernel_rfl) (fun _ _ _ h => h) (Or.inl ⟨by rfl, fun W hSw => ?_⟩) (by assumption) ?_
        · clear hSw
          go_simp
        simp only [Act.put, List.setIfInBounds_toArray, List.set_cons_zero, List.set_cons_succ]
        refine wpAnyH_take (i := 1) (v := .slice (some ⟨g15, 0, none⟩) 44 44) (by simp only [List.getElem?_toArray, List.getElem?_cons_zero, List.getElem?_cons_succ]; rfl) (by kernel_rfl) (by kernel_rfl) (by kernel_rfl) (fun _ _ _ h => h) (Or.inl ⟨by rfl, fun W hSw => ?_⟩) (by assumption) ?_
        · have hcw := hSw.1.cell (k := 1) rfl
          go_simp
        simp only [Act.put, List.setIfInBounds_toArray, List.set_cons_zero, List.set_cons_succ]
        refine wpAnyH_take (i := 2) (v := .pointer (some ⟨sB, 0, none⟩)) (by simp only [List.getElem?_toArray, List.getElem?_cons_zero, List.getElem?_cons_succ]; rfl) (by kernel_rfl) (by kernel_rfl) (by kernel_rfl) (fun _ _ _ h => h) (Or.inl ⟨by rfl, fun W hSw => ?_⟩) (by assumption) ?_
        · clear hSw
          go_simp
        simp only [Act.put, List.setIfInBounds_toArray, List.set_cons_zero, List.set_cons_succ]
        refine wpAnyH_take (i := 3) (v := .int .i64 lit) (by simp only [List.getElem?_toArray, List.getElem?_cons_zero, List.getElem?_cons_succ]; rfl) (by kernel_rfl) (by kernel_rfl) (by kernel_rfl) (fun _ _ _ h => h) (Or.inl ⟨by rfl, fun W hSw => ?_⟩) (by assumption) ?_
        · have hcw := hSw.2.cell (k := 0) rfl
          go_simp
        simp only [Act.put, List.setIfInBounds_toArray, List.set_cons_zero, List.set_cons_succ]
        refine wpAnyH_ready (rs := [4]) (by kernel_rfl) (by simp) ?_
        refine AllReadyH.cons (by simp only [List.getElem?_toArray, List.getElem?_cons_zero, List.getElem?_cons_succ]; rfl) (fun K hK => ?_) AllReadyH.nil
        rw [if_pos (by rfl)]
        go_simp
        go_at_call 63
        refine (HCo1.out _).mono ?_
        rintro e w5 ⟨rfl, hb5⟩
        have HBc := hid ((show Below wn2.heap.size wn2 wn2.drew from (Below.refl _ _).drew).trans (hb5.mono (show Below wn2.heap.size wn2 wn2.drew from (Below.refl _ _).drew).size))
        dsimp only
        refine hK.out _ _ ⟨(HU2.out.grow HBc.out).four, HSq1.out.below HBc.out HSq1.out.lt⟩ (fun _ => ?_)
        clear hK K hb5
        have HT1 := hid (HU2.out.grow HBc.out)
        have HSr1 := hid (HSq1.out.below HBc.out HSq1.out.lt)
        have hcel := HT1.out.r1.cell (k := i1) (u := .int .i64 x1) (by rw [List.getElem?_map, HXi1.out]; rfl)
        have hcez := HT1.out.r1.frozen i1
        refine wpAnyH_take (i := 5) (v := .pointer (some ⟨g15, i1, none⟩)) (by simp only [List.getElem?_toArray, List.getElem?_cons_zero, List.getElem?_cons_succ]; rfl) (by kernel_rfl) (by kernel_rfl) (by kernel_rfl) (fun _ _ _ h => h) (Or.inl ⟨by rfl, fun W hSw => ?_⟩) (by assumption) ?_
        · clear hSw
          go_simp
        simp only [Act.put, List.setIfInBounds_toArray, List.set_cons_zero, List.set_cons_succ]
        refine wpAnyH_ready (rs := [6]) (by kernel_rfl) (by simp) ?_
        refine AllReadyH.cons (by simp only [List.getElem?_toArray, List.getElem?_cons_zero, List.getElem?_cons_succ]; rfl) (fun K hK => ?_) AllReadyH.nil
        rw [if_pos (by rfl)]
        go_simp
        refine hK.out _ _ ⟨HT1.out.four, HSr1.out⟩ (fun _ => ?_)
        clear hK K
        refine wpAnyH_take (i := 7) (v := .int .i64 (x1 + 1)) (by simp only [List.getElem?_toArray, List.getElem?_cons_zero, List.getElem?_cons_succ]; rfl) (by kernel_rfl) (by kernel_rfl) (by kernel_rfl) (fun _ _ _ h => h) (Or.inl ⟨by rfl, fun W hSw => ?_⟩) (by assumption) ?_
        · clear hSw
          go_simp
        simp only [Act.put, List.setIfInBounds_toArray, List.set_cons_zero, List.set_cons_succ]
        refine wpAnyH_take (i := 8) (v := .pointer (some ⟨g15, i1, none⟩)) (by simp only [List.getElem?_toArray, List.getElem?_cons_zero, List.getElem?_cons_succ]; rfl) (by kernel_rfl) (by kernel_rfl) (by kernel_rfl) (fun _ _ _ h => h) (Or.inl ⟨by rfl, fun W hSw => ?_⟩) (by assumption) ?_
        · clear hSw
          go_simp
        simp only [Act.put, List.setIfInBounds_toArray, List.set_cons_zero, List.set_cons_succ]
        have HU1 := hid (HT1.out.b1 HXi1.out)
        have HSs1 := hid (HSr1.out.other (a := ⟨g15, i1, none⟩) (.int .i64 (x1 + 1)) (blk_ne HT1.out.r1 HSr1.out (by decide)))
        refine wpAnyH_ready (rs := [9]) (by kernel_rfl) (by simp) ?_
        refine AllReadyH.cons (by simp only [List.getElem?_toArray, List.getElem?_cons_zero, List.getElem?_cons_succ]; rfl) (fun K hK => ?_) AllReadyH.nil
        rw [if_pos (by rfl)]
        go_simp
        refine hK.out _ _ ⟨HU1.out.four, HSs1.out⟩ (fun _ => ?_)
        clear hK K
        refine wpAnyH_done (by kernel_rfl) ?_ _
        refine NoPanic.normal ?_
        clear hcel hcez HBc HT1 HSr1
        generalize w5.setCell ⟨g15, i1, none⟩ (.int .i64 (x1 + 1)) = wn1 at *
        go_wp2_with fail
        have HSq3 := HSs1
        refine wp_region_noPanic ?_
        refine wp_region_held_drew (S := fun W' => Blk W' b [.slice (some ⟨g14, 0, none⟩) 256 256, .slice (some ⟨g15, 0, none⟩) 44 44, .slice (some ⟨g16, 0, none⟩) 28 28, .slice (some ⟨g17, 0, none⟩) 44 44] 121 ∧ Blk W' sB [.int .i64 lit, .int .i64 len, .int .i64 off] 43) (by kernel_rfl) ⟨HU1.out.four, HSq3.out⟩ (fun hHeld => ?_)
        refine wpAnyH_take (i := 0) (v := .pointer (some ⟨b, 3, none⟩)) (by simp only [List.getElem?_toArray, List.getElem?_cons_zero]; rfl) (by kernel_rfl) (by kernel_rfl) (by kernel_rfl) (fun _ _ _ h => h) (Or.inl ⟨by rfl, fun W hSw => ?_⟩) (by assumption) ?_
        · clear hSw
          go_simp
        simp only [Act.put, List.setIfInBounds_toArray, List.set_cons_zero, List.set_cons_succ]
        refine wpAnyH_take (i := 1) (v := .slice (some ⟨g17, 0, none⟩) 44 44) (by simp only [List.getElem?_toArray, List.getElem?_cons_zero, List.getElem?_cons_succ]; rfl) (by kernel_rfl) (by kernel_rfl) (by kernel_rfl) (fun _ _ _ h => h) (Or.inl ⟨by rfl, fun W hSw => ?_⟩) (by assumption) ?_
        · have hcw := hSw.1.cell (k := 3) rfl
          go_simp
        simp only [Act.put, List.setIfInBounds_toArray, List.set_cons_zero, List.set_cons_succ]
        refine wpAnyH_take (i := 2) (v := .pointer (some ⟨sB, 1, none⟩)) (by simp only [List.getElem?_toArray, List.getElem?_cons_zero, List.getElem?_cons_succ]; rfl) (by kernel_rfl) (by kernel_rfl) (by kernel_rfl) (fun _ _ _ h => h) (Or.inl ⟨by rfl, fun W hSw => ?_⟩) (by assumption) ?_
        · clear hSw
          go_simp
        simp only [Act.put, List.setIfInBounds_toArray, List.set_cons_zero, List.set_cons_succ]
        refine wpAnyH_take (i := 3) (v := .int .i64 len) (by simp only [List.getElem?_toArray, List.getElem?_cons_zero, List.getElem?_cons_succ]; rfl) (by kernel_rfl) (by kernel_rfl) (by kernel_rfl) (fun _ _ _ h => h) (Or.inl ⟨by rfl, fun W hSw => ?_⟩) (by assumption) ?_
        · have hcw := hSw.2.cell (k := 1) rfl
          go_simp
        simp only [Act.put, List.setIfInBounds_toArray, List.set_cons_zero, List.set_cons_succ]
        refine wpAnyH_take (i := 4) (v := .int .i64 (len - 3)) (by simp only [List.getElem?_toArray, List.getElem?_cons_zero, List.getElem?_cons_succ]; rfl) (by kernel_rfl) (by kernel_rfl) (by kernel_rfl) (fun _ _ _ h => h) (Or.inl ⟨by rfl, fun W hSw => ?_⟩) (by assumption) ?_
        · clear hSw
          go_simp
        simp only [Act.put, List.setIfInBounds_toArray, List.set_cons_zero, List.set_cons_succ]
        refine wpAnyH_ready (rs := [5]) (by kernel_rfl) (by simp) ?_
        refine AllReadyH.cons (by simp only [List.getElem?_toArray, List.getElem?_cons_zero, List.getElem?_cons_succ]; rfl) (fun K hK => ?_) AllReadyH.nil
        rw [if_pos (by rfl)]
        go_simp
        go_at_call 63
        refine (HCo3.out _).mono ?_
        rintro e w5 ⟨rfl, hb5⟩
        have HBc := hid ((show Below wn1.heap.size wn1 wn1.drew from (Below.refl _ _).drew).trans (hb5.mono (show Below wn1.heap.size wn1 wn1.drew from (Below.refl _ _).drew).size))
        dsimp only
        refine hK.out _ _ ⟨(HU1.out.grow HBc.out).four, HSq3.out.below HBc.out HSq3.out.lt⟩ (fun _ => ?_)
        clear hK K hb5
        have HT3 := hid (HU1.out.grow HBc.out)
        have HSr3 := hid (HSq3.out.below HBc.out HSq3.out.lt)
        have hcel := HT3.out.r3.cell (k := i3) (u := .int .i64 x3) (by rw [List.getElem?_map, HXi3.out]; rfl)
        have hcez := HT3.out.r3.frozen i3
        refine wpAnyH_take (i := 6) (v := .pointer (some ⟨g17, i3, none⟩)) (by simp only [List.getElem?_toArray, List.getElem?_cons_zero, List.getElem?_cons_succ]; rfl) (by kernel_rfl) (by kernel_rfl) (by kernel_rfl) (fun _ _ _ h => h) (Or.inl ⟨by rfl, fun W hSw => ?_⟩) (by assumption) ?_
        · clear hSw
          go_simp
        simp only [Act.put, List.setIfInBounds_toArray, List.set_cons_zero, List.set_cons_succ]
        refine wpAnyH_ready (rs := [7]) (by kernel_rfl) (by simp) ?_
        refine AllReadyH.cons (by simp only [List.getElem?_toArray, List.getElem?_cons_zero, List.getElem?_cons_succ]; rfl) (fun K hK => ?_) AllReadyH.nil
        rw [if_pos (by rfl)]
        go_simp
        refine hK.out _ _ ⟨HT3.out.four, HSr3.out⟩ (fun _ => ?_)
        clear hK K
        refine wpAnyH_take (i := 8) (v := .int .i64 (x3 + 1)) (by simp only [List.getElem?_toArray, List.getElem?_cons_zero, List.getElem?_cons_succ]; rfl) (by kernel_rfl) (by kernel_rfl) (by kernel_rfl) (fun _ _ _ h => h) (Or.inl ⟨by rfl, fun W hSw => ?_⟩) (by assumption) ?_
        · clear hSw
          go_simp
        simp only [Act.put, List.setIfInBounds_toArray, List.set_cons_zero, List.set_cons_succ]
        refine wpAnyH_take (i := 9) (v := .pointer (some ⟨g17, i3, none⟩)) (by simp only [List.getElem?_toArray, List.getElem?_cons_zero, List.getElem?_cons_succ]; rfl) (by kernel_rfl) (by kernel_rfl) (by kernel_rfl) (fun _ _ _ h => h) (Or.inl ⟨by rfl, fun W hSw => ?_⟩) (by assumption) ?_
        · clear hSw
          go_simp
        simp only [Act.put, List.setIfInBounds_toArray, List.set_cons_zero, List.set_cons_succ]
        have HU3 := hid (HT3.out.b3 HXi3.out)
        have HSs3 := hid (HSr3.out.other (a := ⟨g17, i3, none⟩) (.int .i64 (x3 + 1)) (blk_ne HT3.out.r3 HSr3.out (by decide)))
        refine wpAnyH_ready (rs := [10]) (by kernel_rfl) (by simp) ?_
        refine AllReadyH.cons (by simp only [List.getElem?_toArray, List.getElem?_cons_zero, List.getElem?_cons_succ]; rfl) (fun K hK => ?_) AllReadyH.nil
        rw [if_pos (by rfl)]
        go_simp
        refine hK.out _ _ ⟨HU3.out.four, HSs3.out⟩ (fun _ => ?_)
        clear hK K
        refine wpAnyH_done (by kernel_rfl) ?_ _
        refine NoPanic.normal ?_
        clear hcel hcez HBc HT3 HSr3
        generalize w5.setCell ⟨g17, i3, none⟩ (.int .i64 (x3 + 1)) = wn3 at *
        go_wp2_with fail
        go_roundw
        case rel => exact ⟨k + 1, by have := HLt.out; omega, by go_num, by rw [HSn1.out, HSn2.out, HSn3.out]; exact HU3.out⟩
        case measure => have := HLt.out; simp [intOf]; omega
      · obtain rfl : k = l.length := by omega
        rw [List.take_of_length_le (Nat.le_refl _)] at HS
        have f0 := HS.out.four.cell (k := 0) rfl
        have f1 := HS.out.four.cell (k := 1) rfl
        have f2 := HS.out.four.cell (k := 2) rfl
        have f3 := HS.out.four.cell (k := 3) rfl
        have HM : Hid (Calls Tryz.prog 57 #[.agg #[.slice (some ⟨g14, 0, none⟩) 256 256, .slice (some ⟨g15, 0, none⟩) 44 44, .slice (some ⟨g16, 0, none⟩) 28 28, .slice (some ⟨g17, 0, none⟩) 44 44]] wr fun e w' => ∃ M, e = .returned (.tuple #[.pointer (some ⟨M, 0, none⟩), .int .i64 0]) ∧ PrAt w' M (planC bs l) ∧ wr.heap.size ≤ M ∧ Below wr.heap.size wr w') := by
          have e0 : planC bs l 0 = histS lb := by rw [HLb.out]; rfl
          have l0 : (planC bs l 0).length = 256 := by rw [e0]; exact histS_length _
          have l1 : (planC bs l 1).length = 44 := cntK_length 1 l
          have l2 : (planC bs l 2).length = 28 := cntK_length 2 l
          have l3 : (planC bs l 3).length = 44 := cntK_length 3 l
          have h := prmade_ok (fun k => if k = 0 then some ⟨g14, 0, none⟩ else if k = 1 then some ⟨g15, 0, none⟩ else if k = 2 then some ⟨g16, 0, none⟩ else some ⟨g17, 0, none⟩) (fun k => if k = 0 then 256 else if k = 1 then 44 else if k = 2 then 28 else 44) (planC bs l) wr ?_ (planC_ok (by have := HH.out.hl; omega))
          · unfold fourV at h
            rw [l0, l1, l2, l3] at h
            exact h
          · refine ⟨fun k hk => ?_, fun k hk => ?_, fun k hk => ?_, fun k hk => ?_⟩
            · have : k = 0 ∨ k = 1 ∨ k = 2 ∨ k = 3 := by omega
              rcases this with rfl | rfl | rfl | rfl
              · rw [l0]; exact Nat.le_refl _
              · rw [l1]; exact Nat.le_refl _
              · rw [l2]; exact Nat.le_refl _
              · rw [l3]; exact Nat.le_refl _
            · unfold maxLen; split <;> (try split) <;> (try split) <;> omega
            · split <;> (try split) <;> (try split) <;> (intro h; cases h)
            · have : k = 0 ∨ k = 1 ∨ k = 2 ∨ k = 3 := by omega
              rcases this with rfl | rfl | rfl | rfl
              · rw [e0]; exact Cs.of_blk HS.out.hist
              · exact Cs.of_blk HS.out.r1
              · exact Cs.of_blk HS.out.r2
              · exact Cs.of_blk HS.out.r3
        clear hS hk hlt
        go_wp2_with fail
        refine HM.out.mono ?_
        rintro e w9 ⟨M, rfl, hpr, hM, hb9⟩
        have HS9 := hid (HS.out.grow hb9)
        have HPr := hid ((hpr.other HS9.out.p (by decide) (by decide) (by decide) (.pointer (some ⟨M, 0, none⟩)) (k := 0)).other (HS9.out.e.other (a := ⟨w.heap.size, 0, none⟩) (.pointer (some ⟨M, 0, none⟩)) (by simp)) (by decide) (by decide) (by decide) (.int .i64 0) (k := 0))
        have HQ1 := hid ((HS9.out.p.set 0 (.pointer (some ⟨M, 0, none⟩))).other (a := ⟨w.heap.size + 1, 0, none⟩) (.int .i64 0) (by simp))
        have HQ2 := hid ((HS9.out.e.other (a := ⟨w.heap.size, 0, none⟩) (.pointer (some ⟨M, 0, none⟩)) (by simp)).set 0 (.int .i64 0))
        have HLw := hid ((HS9.out.low.setCell (p := ⟨w.heap.size, 0, none⟩) (Nat.le_refl _) (.pointer (some ⟨M, 0, none⟩))).setCell (p := ⟨w.heap.size + 1, 0, none⟩) (by simp) (.int .i64 0))
        have HMl := hid (Nat.le_trans HS.out.low.size hM)
        have p0 := HS9.out.p.cell (k := 0) rfl
        have p1 := HS9.out.p.frozen 0
        have e0 := HS9.out.e.cell (k := 0) rfl
        have e1 := HS9.out.e.frozen 0
        clear hpr hM hb9 f0 f1 f2 f3
        go_wp2_with fail
        generalize (w9.setCell ⟨w.heap.size, 0, none⟩ (.pointer (some ⟨M, 0, none⟩))).setCell ⟨w.heap.size + 1, 0, none⟩ (.int .i64 0) = w8 at *
        have q0 := HQ1.out.cell (k := 0) rfl
        have q1 := HQ2.out.cell (k := 0) rfl
        refine leaves_cons (f := 59) (args := #[.pointer (some ⟨w.heap.size + 1, 0, none⟩), .func (.func 60) #[] #[.pointer (some ⟨w.heap.size, 0, none⟩)]]) (by simp) (by simp [go_sem]) ?_
        refine (prcaught_idle ⟨w.heap.size + 1, 0, none⟩ _ _).mono ?_
        rintro e u' w'' ⟨rfl, rfl, rfl⟩
        refine ⟨_, ?_, M, rfl, HPr.out, HMl.out, HLw.out⟩
        simp [results, Tryz.results42, go_sem, q0, q1]
end Go.Proofs.YtlgablepckmogaaGreat
