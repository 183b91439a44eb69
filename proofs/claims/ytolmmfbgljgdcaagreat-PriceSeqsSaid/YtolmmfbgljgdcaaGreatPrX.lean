/-
  Chapter 32's laws: a row of sequences among the arguments, what it is in memory; a plan with its data.
-/
import Derived.Test.YtolmmfbgljgdcaaGreatPrQ
import Derived.Test.YtolmmfbgljgdcaaGreatPrV
import Derived.Deep.Slices
import Derived.ChangeSame
namespace Go.Port
open Go.RowKit
theorem build_list {α : Type} {P : Nat → α → Prop} (n : Nat) (h : ∀ i, i < n → ∃ x, P i x) : ∃ l : List α, l.length = n ∧ ∀ i x, l[i]? = some x → P i x := by
  induction n with
  | zero => exact ⟨[], rfl, fun i x hx => by simp at hx⟩
  | succ n ih =>
    obtain ⟨l, h1, h2⟩ := ih (fun i hi => h i (by omega))
    obtain ⟨x, hx⟩ := h n (by omega)
    refine ⟨l ++ [x], by simp [h1], fun i y hy => ?_⟩
    rw [List.getElem?_append] at hy
    split at hy
    · exact h2 i y hy
    · have hl := (List.getElem?_eq_some_iff.1 hy).1
      simp only [List.length_singleton] at hl
      have hi : i = n := by omega
      subst hi
      rw [show i - l.length = 0 by omega] at hy
      simp only [List.getElem?_cons_zero, Option.some.injEq] at hy
      rw [← hy]
      exact hx
/-- A sequence of machine integers. -/
def SqI (s : Sq) : Prop := (-9223372036854775808 ≤ s.lit ∧ s.lit ≤ 9223372036854775807) ∧ (-9223372036854775808 ≤ s.len ∧ s.len ≤ 9223372036854775807) ∧ (-9223372036854775808 ≤ s.off ∧ s.off ≤ 9223372036854775807)
theorem lsqc_length (l : List Sq) : (l.flatMap lsqc).length = l.length * 3 := by
  induction l with
  | nil => rfl
  | cons x r ih => simp only [List.flatMap_cons, List.length_append, ih, List.length_cons, lsqc, List.length_nil]; omega
theorem lsqc_get {l : List Sq} {k : Nat} {x : Sq} (h : l[k]? = some x) (j : Nat) (hj : j < 3) : (l.flatMap lsqc)[k * 3 + j]? = (lsqc x)[j]? := by
  obtain ⟨h1, rfl⟩ := List.getElem?_eq_some_iff.1 h
  have e : l = l.take k ++ l[k] :: l.drop (k + 1) := by rw [← List.drop_eq_getElem_cons h1, List.take_append_drop]
  have hl : ((l.take k).flatMap lsqc).length = k * 3 := by rw [lsqc_length, List.length_take, Nat.min_eq_left (Nat.le_of_lt h1)]
  have e2 : l.flatMap lsqc = (l.take k).flatMap lsqc ++ (lsqc l[k] ++ (l.drop (k + 1)).flatMap lsqc) := by
    conv => lhs; rw [e]
    rw [List.flatMap_append, List.flatMap_cons]
  rw [e2, List.getElem?_append_right (by omega), hl, Nat.add_sub_cancel_left, List.getElem?_append_left (by simp [lsqc]; omega)]
end Go.Port
namespace Go.Proofs.YtolmmfbgljgdcaaGreat
open Go.RowKit Go.Port Go.ChangeShapes Go.WideShapes Go.Deep

set_option maxRecDepth 100000 in
theorem open_seqs {H : Type} {enc : TypeId × Value → H} {W : World} {v : Value} {d : DataW H} {ps : List MemPlace} {b0 : Nat}
    (hv : Value.okWide Tryz.prog W .any b0 25 v) (hd : DataW.Trod enc Tryz.prog W 0 (fun _ => true) true 25 v d ps) : ∃ l : List Sq, Rs W 3 v l.length (l.flatMap lsqc) ∧ ∀ s ∈ l, SqI s := by
  obtain ⟨a0, n0, c0, rfl⟩ := okWide_slice Tryz.underlying25 hv
  obtain ⟨m, hf⟩ := hd
  replace hf : DataW.trod enc Tryz.prog W 0 (fun _ => true) true m 25 [.slice a0 n0 c0] = some (d, ps) := hf
  have hce : Tryz.prog.cellsOf 42 = 3 := by kernel_rfl
  have hci : Tryz.prog.cellsOf 3 = 1 := by kernel_rfl
  rcases open_slice Tryz.underlying25 hf with ⟨hcs, _⟩ | ⟨a, len, cap, q, n', D, Pl, hcs, _, hle, hmx, hq, _, hi⟩
  · simp only [List.cons.injEq, and_true] at hcs
    cases hcs
    exact ⟨[], Rs.of_sl (Sl.nil W 3), fun x hx => by simp at hx⟩
  · simp only [List.cons.injEq, and_true] at hcs
    cases hcs
    simp only [if_true] at hq
    have hP : ∀ i, i < n0 → ∃ s : Sq, SqI s ∧ a.spot = none ∧ a.block < W.heap.size ∧ ∀ c u, (lsqc s)[c]? = some u → W.cell? ⟨a.block, a.off + (i * 3 + c), none⟩ = some u := by
      intro i hil
      obtain ⟨cs', hcells, ht⟩ := hi i (by omega)
      rw [hce] at hcells
      obtain ⟨_, hcl, hat⟩ := World.cells?_some hcells
      obtain ⟨ys, n2, _, _, _, hyl, hyg⟩ := DataW.trod_struct Tryz.underlying42 ht
      match cs', hcl with
      | [u0, u1, u2], _ =>
        have y0 := hyg 0 _ rfl
        have y1 := hyg 1 _ rfl
        have y2 := hyg 2 _ rfl
        obtain ⟨w0, hw0⟩ : ∃ x0, ys[0]? = some x0 := ⟨_, List.getElem?_eq_getElem (by rw [hyl]; decide)⟩
        obtain ⟨w1, hw1⟩ : ∃ x0, ys[1]? = some x0 := ⟨_, List.getElem?_eq_getElem (by rw [hyl]; decide)⟩
        obtain ⟨w2, hw2⟩ : ∃ x0, ys[2]? = some x0 := ⟨_, List.getElem?_eq_getElem (by rw [hyl]; decide)⟩
        rw [hw0] at y0
        rw [hw1] at y1
        rw [hw2] at y2
        have z0 : DataW.trod enc Tryz.prog W 0 (fun _ => true) true n2 3 [u0] = some w0 := by simpa [hci] using y0
        have z1 : DataW.trod enc Tryz.prog W 0 (fun _ => true) true n2 3 [u1] = some w1 := by simpa [hci] using y1
        have z2 : DataW.trod enc Tryz.prog W 0 (fun _ => true) true n2 3 [u2] = some w2 := by simpa [hci] using y2
        obtain ⟨x0, hx0, _, f0⟩ := DataW.trod_int Tryz.underlying3 z0
        obtain ⟨x1, hx1, _, f1⟩ := DataW.trod_int Tryz.underlying3 z1
        obtain ⟨x2, hx2, _, f2⟩ := DataW.trod_int Tryz.underlying3 z2
        simp only [List.cons.injEq, and_true] at hx0 hx1 hx2
        subst hx0 hx1 hx2
        have k0 := hat 0 (by omega)
        have k1 := hat 1 (by omega)
        have k2 := hat 2 (by omega)
        simp only [List.getElem?_cons_zero, List.getElem?_cons_succ] at k0 k1 k2
        obtain ⟨cs9, hcells9, _⟩ := hi 0 (by omega)
        rw [hce] at hcells9
        obtain ⟨_, hcl9, hat9⟩ := World.cells?_some hcells9
        have k9 := hat9 0 (by omega)
        rw [List.getElem?_eq_getElem (by omega)] at k9
        have hsp : a.spot = none := by
          have h := World.cell?_spot k9
          rw [Nat.zero_mul] at h
          exact h
        obtain ⟨b, off, sp⟩ := a
        dsimp only at hsp
        subst hsp
        rw [Go.WideShapes.add_plain, Go.WideShapes.add_plain] at k0 k1 k2
        refine ⟨⟨x0, x1, x2⟩, ⟨bounds_i64 f0, bounds_i64 f1, bounds_i64 f2⟩, rfl, (show b < W.heap.size from World.block_lt_of_cell? W _ k0), fun c u hu => ?_⟩
        match c, hu with
        | 0, hu => cases hu; exact k0
        | 1, hu => cases hu; exact k1
        | 2, hu => cases hu; exact k2
    obtain ⟨l, hl, hel⟩ := build_list n0 hP
    refine ⟨l, ⟨lsqc_length l, some a, c0, by rw [hl], by rw [hl]; exact hle, hmx, (fun h => by cases h), fun j u hu => ?_⟩, fun s hs => ?_⟩
    · have hj : j < l.length * 3 := by
        have := (List.getElem?_eq_some_iff.1 hu).1
        rwa [lsqc_length] at this
      obtain ⟨s, hs⟩ : ∃ s, l[j / 3]? = some s := ⟨_, List.getElem?_eq_getElem (by omega)⟩
      obtain ⟨_, h1, h2, h3⟩ := hel _ _ hs
      have hg := lsqc_get hs (j % 3) (Nat.mod_lt _ (by omega))
      rw [Nat.div_add_mod' j 3] at hg
      have h4 := h3 (j % 3) u (by rw [← hg]; exact hu)
      rw [Nat.div_add_mod' j 3] at h4
      obtain ⟨b, off, sp⟩ := a
      dsimp only at h1
      subst h1
      exact ⟨b, off, rfl, h2, h4⟩
    · obtain ⟨i, hi⟩ := List.mem_iff_getElem?.1 hs
      exact (hel i s hi).1
/-- The forms of a plan and its data. -/
theorem pd_of {w : World} {v1 v2 : Value} {bs : List UInt8} {l : List Sq} (h1 : Rs w 1 v1 bs.length (bs.map bv)) (h2 : Rs w 3 v2 l.length (l.flatMap lsqc)) :
    ∃ (ad : Option Addr) (c : Nat) (a : Option Addr) (cl : Nat), v1 = .slice ad bs.length c ∧ v2 = .slice a l.length cl ∧ (bs.length ≤ 300 → l.length ≤ 40 → PdAt w a cl l ad c bs) := by
  obtain ⟨_, ad, c, rfl, p1, p2, p3, p4⟩ := h1
  obtain ⟨_, a, cl, rfl, q1, q2, q3, q4⟩ := h2
  refine ⟨ad, c, a, cl, rfl, rfl, fun hb hl => ⟨by omega, q1, q4, ⟨by omega, ?_⟩, p1, p3, p4, by omega⟩⟩
  have : maxLen = 9223372036854775807 := by decide
  omega
theorem planV_two (C : Nat → List Int) (bs : List UInt8) (l : List Sq) : ∃ x y : Int, planV C bs l = .tuple #[.int .i64 x, .int .i64 y] := by
  unfold planV
  split
  · exact numV_two _
  · exact ⟨_, _, rfl⟩
end Go.Proofs.YtolmmfbgljgdcaaGreat
