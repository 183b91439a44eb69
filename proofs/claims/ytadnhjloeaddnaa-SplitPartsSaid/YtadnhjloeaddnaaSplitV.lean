/-
  What the law of the iterator leans on: what the reference's parts are in memory.
-/
import Derived.Test.YtadnhjloeaddnaaSplitU
namespace Go.Port
open Go.RowKit

theorem parts_pts (bs : List UInt8) (l : List Nat) (T : Nat) : partsGo bs T (l.map fun (x : Nat) => (x : Int)) = (ptsGo T l).map fun p => (((p.1 : Nat) : Int), seg bs p.1 p.2) := by
  induction l generalizing T with
  | nil => rfl
  | cons y r ih => simp only [List.map_cons, partsGo, ptsGo, Int.toNat_natCast, ih]

/-- The value is a slice of slices that read as the bytes of the parts; none of it lies in block X. -/
def WantAt (W : World) (X : Nat) (vw : Value) (full : List (Int × List UInt8)) : Prop :=
  ∃ a c, vw = .slice a full.length c ∧ full.length ≤ c ∧ ∀ k p, full[k]? = some p → ∃ b off bd od c2, a = some ⟨b, off, none⟩ ∧ b ≠ X ∧ bd ≠ X ∧ b < W.heap.size ∧ bd < W.heap.size ∧
    W.cell? ⟨b, off + k, none⟩ = some (.slice (some ⟨bd, od, none⟩) p.2.length c2) ∧ ∀ j u, (p.2.map bv)[j]? = some u → W.cell? ⟨bd, od + j, none⟩ = some u
theorem WantAt.low {W W' : World} {X : Nat} {vw : Value} {full : List (Int × List UInt8)} (h : WantAt W X vw full) (hb : Below W.heap.size W W') : WantAt W' X vw full := by
  obtain ⟨a, c, h1, h2, h3⟩ := h
  refine ⟨a, c, h1, h2, fun k p hp => ?_⟩
  obtain ⟨b, off, bd, od, c2, k1, k2, k3, k4, k5, k6, k7⟩ := h3 k p hp
  exact ⟨b, off, bd, od, c2, k1, k2, k3, Nat.lt_of_lt_of_le k4 hb.size, Nat.lt_of_lt_of_le k5 hb.size, (hb.cell (p := ⟨b, off + k, none⟩) k4).trans k6, fun j u hu => (hb.cell (p := ⟨bd, od + j, none⟩) k5).trans (k7 j u hu)⟩
theorem WantAt.set {W : World} {X : Nat} {vw : Value} {full : List (Int × List UInt8)} (h : WantAt W X vw full) (k : Nat) (u : Value) : WantAt (W.setCell ⟨X, k, none⟩ u) X vw full := by
  obtain ⟨a, c, h1, h2, h3⟩ := h
  refine ⟨a, c, h1, h2, fun k p hp => ?_⟩
  obtain ⟨b, off, bd, od, c2, k1, k2, k3, k4, k5, k6, k7⟩ := h3 k p hp
  exact ⟨b, off, bd, od, c2, k1, k2, k3, by simpa using k4, by simpa using k5, (World.cell?_setCell_far _ _ _ _ (Ne.symm k2)).trans k6, fun j u hu => (World.cell?_setCell_far _ _ _ _ (Ne.symm k3)).trans (k7 j u hu)⟩
theorem WantAt.nil (W : World) (X : Nat) : WantAt W X (.slice none 0 0) [] := ⟨none, 0, rfl, Nat.le_refl _, fun k p h => by simp at h⟩

/-- The law's cells: the number of rounds, its result, what is wanted. -/
structure StP (w W : World) (many : Int) (vw : Value) (full : List (Int × List UInt8)) (t3 t4 t49 : TypeId) : Prop where
  b0 : Blk W w.heap.size [.int .i64 many] t3
  b1 : Blk W (w.heap.size + 1) [.bool false] t4
  b2 : Blk W (w.heap.size + 1 + 1) [vw] t49
  want : WantAt W (w.heap.size + 1 + 1) vw full
  below : Below w.heap.size w W
theorem StP.low {w W W' : World} {many : Int} {vw : Value} {full : List (Int × List UInt8)} {t3 t4 t49 : TypeId} (h : StP w W many vw full t3 t4 t49) (hb : Below W.heap.size W W') : StP w W' many vw full t3 t4 t49 :=
  ⟨h.b0.below hb h.b0.lt, h.b1.below hb h.b1.lt, h.b2.below hb h.b2.lt, h.want.low hb, h.below.trans (hb.mono h.below.size)⟩

/-- A block whose first n cells are bytes. -/
def ByteBlk (W : World) (C n : Nat) (t5 : TypeId) : Prop := ∃ cs, Blk W C cs t5 ∧ ∀ j, j < n → ∃ y : Int, cs[j]? = some (.int .u8 y)
theorem ByteBlk.set {W : World} {C n : Nat} {t5 : TypeId} (h : ByteBlk W C n t5) (k : Nat) (y : Int) : ByteBlk (W.setCell ⟨C, k, none⟩ (.int .u8 y)) C n t5 := by
  obtain ⟨cs, h1, h2⟩ := h
  refine ⟨_, h1.set k _, fun j hj => ?_⟩
  obtain ⟨z, hz⟩ := h2 j hj
  by_cases e : k = j
  · subst e
    exact ⟨y, by rw [List.getElem?_set_self (List.getElem?_eq_some_iff.1 hz).1]⟩
  · exact ⟨z, by rw [List.getElem?_set_ne e]; exact hz⟩

theorem byte_blk {w : World} {base : Nat} {a : Option Addr} {c : Nat} {t5 : TypeId} {bs : List UInt8} {v : Value} (h : w.ownsRow base t5 1 v bs.length (bs.map bv)) (h0 : 0 < bs.length) (hv : v = .slice a bs.length c) :
    ∃ C, a = some ⟨C, 0, none⟩ ∧ base ≤ C ∧ ByteBlk w C bs.length t5 := by
  obtain ⟨g, cap, cs, e, hb, _, _, hblk, ht⟩ := own_blk h h0
  rw [hv] at e
  cases e
  refine ⟨g, rfl, hb, cs, hblk, fun j hj => ?_⟩
  have h1 : (cs.take (bs.length * 1))[j]? = some (bv (bs[j]'hj)) := by
    rw [ht, List.getElem?_map, List.getElem?_eq_getElem hj]
    rfl
  rw [List.getElem?_take_of_lt (by omega)] at h1
  exact ⟨_, h1⟩
theorem ByteBlk.low {W W' : World} {C n : Nat} {t5 : TypeId} (h : ByteBlk W C n t5) (hb : Below W.heap.size W W') : ByteBlk W' C n t5 := by
  obtain ⟨cs, h1, h2⟩ := h
  exact ⟨cs, h1.below hb h1.lt, h2⟩
theorem ByteBlk.lt {W : World} {C n : Nat} {t5 : TypeId} (h : ByteBlk W C n t5) : C < W.heap.size := by
  obtain ⟨cs, h1, h2⟩ := h
  exact h1.lt

/-- What the next part is, out of what has come. -/
theorem next_part {bs : List UInt8} {cuts : List Int} {pre : List PEl} {x : PEl} (hp : ∃ rest, dataP (pre ++ [x]) ++ rest = fullP bs cuts) :
    (fullP bs cuts)[pre.length]? = some (x.1, x.2.2) ∧ pre.length < (fullP bs cuts).length := by
  obtain ⟨rest, hr⟩ := hp
  have e : dataP (pre ++ [x]) = dataP pre ++ [(x.1, x.2.2)] := by unfold dataP; simp
  have hl : (dataP pre).length = pre.length := by unfold dataP; simp
  rw [← hr, e]
  constructor
  · rw [List.append_assoc, List.getElem?_append_right (by omega), hl, Nat.sub_self]
    rfl
  · simp [hl]
theorem all_parts {bs : List UInt8} {cuts : List Int} {xs : List PEl} (h : dataP xs = fullP bs cuts) : xs.length = (fullP bs cuts).length := by
  rw [← h]
  unfold dataP
  simp
theorem pre_parts {bs : List UInt8} {cuts : List Int} {xs : List PEl} (h : ∃ rest, dataP xs ++ rest = fullP bs cuts) : xs.length ≤ (fullP bs cuts).length := by
  obtain ⟨rest, h⟩ := h
  rw [← h]
  unfold dataP
  simp
end Go.Port
namespace Go.Proofs.Ytadnhjloeaddnaa
open Go.RowKit Go.Port

theorem PartsAt.set {B : Nat} {bs : List UInt8} {cuts : List Int} {n p5 p6 : Nat} {W : World} (h : PartsAt B bs cuts n p5 p6 W) {a : Addr} (ha : a.block < B) (u : Value) : PartsAt B bs cuts n p5 p6 (W.setCell a u) := by
  obtain ⟨vo, vp, h1, h2, h3, h4, h5, h6⟩ := h
  exact ⟨vo, vp, h1, h2, h3.other u (by omega), h4.other u (by omega), own_other h5 u ha, own_other h6 u ha⟩
theorem PartsAt.low {B : Nat} {bs : List UInt8} {cuts : List Int} {n p5 p6 : Nat} {W W' : World} (h : PartsAt B bs cuts n p5 p6 W) (hb : Below W.heap.size W W') : PartsAt B bs cuts n p5 p6 W' := by
  obtain ⟨vo, vp, h1, h2, h3, h4, h5, h6⟩ := h
  exact ⟨vo, vp, h1, h2, h3.below hb h3.lt, h4.below hb h4.lt, own_low h5 hb, own_low h6 hb⟩

/-- The parts of rising cut points, as the reference lays them. -/
theorem want_any (X : Nat) (ab : Option Addr) (cb : Nat) (bs : List UInt8) (a2 : Option Addr) (c2 : Nat) (cuts : List Int) (w : World) (hb : bs.length ≤ 200000) (hnb : bs.length ≤ cb) (hab : ab = none → cb = 0) (hcl : cuts.length ≤ 9000) (hr : riseB bs.length 0 cuts = true) (hX : X < w.heap.size) (hX2 : ∀ b off, ab = some ⟨b, off, none⟩ → 0 < bs.length → b ≠ X)
    (hc : ∀ j u, (bs.map bv)[j]? = some u → ∃ b off, ab = some ⟨b, off, none⟩ ∧ b < w.heap.size ∧ w.cell? ⟨b, off + j, none⟩ = some u)
    (hc2 : ∀ j u, (cuts.map iv)[j]? = some u → ∃ b off, a2 = some ⟨b, off, none⟩ ∧ b < w.heap.size ∧ w.cell? ⟨b, off + j, none⟩ = some u) :
    Calls Try.prog 28 #[.slice ab bs.length cb, .slice a2 cuts.length c2] w fun e w' => ∃ a n c, e = .returned (.slice a n c) ∧ WantAt w' X (.slice a n c) (fullP bs cuts) ∧ Below w.heap.size w w' := by
  have hr' : riseB bs.length ((0 : Nat) : Int) cuts = true := hr
  obtain ⟨cs, rfl, hrise⟩ := rise_nat bs.length cuts 0 hr'
  have hcl2 : (cs.map fun (x : Nat) => (x : Int)).length = cs.length := by simp
  rcases Nat.eq_zero_or_pos bs.length with h0 | h0
  · have hbs : bs = [] := List.eq_nil_of_length_eq_zero h0
    subst hbs
    have hcs : cs = [] := by
      cases cs with
      | nil => rfl
      | cons x r =>
        have h1 := hrise 0 x rfl
        have h2 : x < 0 := h1.2
        omega
    subst hcs
    refine (rparts_nil ab a2 cb c2 w).mono ?_
    rintro e w' ⟨rfl, rfl⟩
    refine ⟨none, 0, 0, rfl, ?_, Below.refl _ _⟩
    have : fullP [] (([] : List Nat).map fun (x : Nat) => (x : Int)) = [] := rfl
    rw [this]
    exact WantAt.nil w X
  · obtain ⟨b0, off0, rfl, _, _⟩ := hc 0 (bv (bs[0]'h0)) (by rw [List.getElem?_map, List.getElem?_eq_getElem h0]; rfl)
    rw [hcl2] at hcl ⊢
    refine (rparts_any b0 off0 bs.length cb a2 cs.length c2 cs w h0 hnb rfl hcl hrise hc2).mono ?_
    rintro e w' ⟨v, rfl, hown, hbl⟩
    obtain ⟨a, c, rfl, h1, h2, h3, h4⟩ := (Sl.of_owns hown).open
    have hf : fullP bs (cs.map fun (x : Nat) => (x : Int)) = (ptsGo 0 (cs ++ [bs.length])).map fun p => (((p.1 : Nat) : Int), seg bs p.1 p.2) := by
      unfold fullP
      rw [if_pos ⟨hr, by omega⟩]
      have := parts_pts bs (cs ++ [bs.length]) 0
      rw [List.map_append] at this
      exact this
    have hfl : (fullP bs (cs.map fun (x : Nat) => (x : Int))).length = cs.length + 1 := by
      rw [hf, List.length_map, ptsGo_length]
      simp
    refine ⟨a, cs.length + 1, c, rfl, ⟨a, c, by rw [hfl], by rw [hfl]; exact h1, fun k p hp => ?_⟩, hbl⟩
    rw [hf, List.getElem?_map] at hp
    obtain ⟨q, hq, rfl⟩ := Option.map_eq_some_iff.1 hp
    obtain ⟨hq1, hq2⟩ := pts_bounds h0 hrise k q hq
    obtain ⟨b, off, e1, e2, e3⟩ := h4 k (pvOf b0 off0 cb q) (by rw [List.getElem?_map, hq]; rfl)
    have hsl : (seg bs q.1 q.2).length = q.2 - q.1 := seg_length bs q.1 q.2 hq2
    have hbX : b ≠ X := by
      have := (hown.lt b (by rw [e1]; rfl)).1
      omega
    have hdX := hX2 b0 off0 rfl h0
    obtain ⟨b9, off9, e9, hb9, _⟩ := hc 0 (bv (bs[0]'h0)) (by rw [List.getElem?_map, List.getElem?_eq_getElem h0]; rfl)
    cases e9
    refine ⟨b, off, b0, off0 + q.1, cb - q.1, e1, hbX, hdX, e2, Nat.lt_of_lt_of_le hb9 hbl.size, ?_, fun j u hu => ?_⟩
    · rw [e3]
      unfold pvOf
      rw [hsl]
    · have hj : j < q.2 - q.1 := by
        have := (List.getElem?_eq_some_iff.1 hu).1
        rwa [List.length_map, hsl] at this
      obtain ⟨b', off', he, hb1, hb2⟩ := hc (q.1 + j) u (by
        rw [List.getElem?_map] at hu ⊢
        unfold seg at hu
        rw [List.getElem?_take_of_lt hj, List.getElem?_drop] at hu
        exact hu)
      simp only [Option.some.injEq, Addr.mk.injEq, and_true] at he
      obtain ⟨rfl, rfl⟩ := he
      rw [Nat.add_assoc]
      exact (hbl.cell (p := ⟨b0, off0 + (q.1 + j), none⟩) hb1).trans hb2
end Go.Proofs.Ytadnhjloeaddnaa
