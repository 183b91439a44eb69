/-
  A text among the arguments of a law: what it is in memory; its bytes, walked.
-/
import Derived.Test.YtadnhjloeaddnaaSplitQ
import Derived.Test.YtadnhjloeaddnaaLaw
import Derived.Deep.Slices
import Derived.ChangeSame
namespace Go.Port
open Go.RowKit

theorem Blk.not_row {w : World} {b : Nat} {vs : List Value} {t e : TypeId} {base sz n : Nat} {v : Value} {xs : List Value} (h : Blk w b vs t) (hown : w.ownsRow base e sz v n xs) (ht : t ≠ e) : some b ≠ v.ownBlock := by
  rcases hown.2 with ⟨rfl, _⟩ | ⟨g, cap, cur, rfl, _, hg, _⟩
  · simp [Value.ownBlock]
  · intro e'
    simp only [Value.ownBlock, Option.some.injEq] at e'
    subst e'
    unfold Blk at h
    rw [hg] at h
    simp only [Option.some.injEq, Obj.cells.injEq] at h
    exact ht h.2.1.symm

/-- A text: a slice of byte slices, each with a number. -/
def TextAt (w : World) (v : Value) : Prop :=
  ∃ a n c, v = .agg #[.slice a n c] ∧ n ≤ c ∧ c ≤ maxLen ∧ ∀ i, i < n → ∃ b off vb, ∃ bs : List UInt8, ∃ m : Nat, a = some ⟨b, off, none⟩ ∧ b < w.heap.size ∧
    w.cell? ⟨b, off + i * 2, none⟩ = some vb ∧ w.cell? ⟨b, off + i * 2 + 1, none⟩ = some (.int .u16 m) ∧ Rs w 1 vb bs.length (bs.map bv) ∧ m ≤ 65535
end Go.Port
namespace Go.Proofs.Ytadnhjloeaddnaa
open Go.RowKit Go.Port Go.ChangeShapes Go.WideShapes Go.Deep

theorem Try.info_repeat : (Try.prog.info? 60).map (fun i => (i.zero, i.size, i.bytes)) = some (some (.agg #[.slice none 0 0, .int .u16 0]), 2, 32) := by kernel_rfl

set_option maxRecDepth 100000 in
theorem open_text {H : Type} {enc : TypeId × Value → H} {W : World} {v : Value} {d : DataW H} {ps : List MemPlace} {b0 : Nat}
    (hv : Value.okWide Try.prog W .any b0 24 v) (hd : DataW.Trod enc Try.prog W 0 (fun _ => true) true 24 v d ps) : TextAt W v := by
  obtain ⟨cs, rfl, hsz⟩ := okWide_struct Try.underlying24 hv
  obtain ⟨l⟩ := cs
  have hct : Try.prog.cellsOf 24 = 1 := by kernel_rfl
  rw [hct] at hsz
  have hl : l.length = 1 := by simpa using hsz
  match l, hl with
  | [c0], _ =>
    obtain ⟨m, hf⟩ := hd
    obtain ⟨xs, n, _, _, _, hxl, hg⟩ := DataW.trod_struct Try.underlying24 hf
    have h0 := hg 0 _ rfl
    obtain ⟨x0, hx0⟩ : ∃ x0, xs[0]? = some x0 := ⟨_, List.getElem?_eq_getElem (by rw [hxl]; decide)⟩
    rw [hx0] at h0
    have hc1 : Try.prog.cellsOf 22 = 1 := by kernel_rfl
    have h1 : DataW.trod enc Try.prog W 0 (fun _ => true) true n 22 [c0] = some x0 := by
      simpa [Value.cells, hc1] using h0
    have hce : Try.prog.cellsOf 60 = 2 := by kernel_rfl
    have hcb : Try.prog.cellsOf 25 = 1 := by kernel_rfl
    have hcm : Try.prog.cellsOf 58 = 1 := by kernel_rfl
    rcases open_slice Try.underlying22 h1 with ⟨hcs, _⟩ | ⟨a, len, cap, q, n', D, Pl, hcs, _, hle, hmx, hq, _, hi⟩
    · simp only [List.cons.injEq, and_true] at hcs
      subst hcs
      exact ⟨none, 0, 0, rfl, Nat.le_refl _, by simp [maxLen], fun i hi => absurd hi (Nat.not_lt_zero _)⟩
    · simp only [List.cons.injEq, and_true] at hcs
      subst hcs
      simp only [if_true] at hq
      refine ⟨some a, len, cap, rfl, hle, hmx, fun i hil => ?_⟩
      obtain ⟨cs', hcells, ht⟩ := hi i (by omega)
      rw [hce] at hcells
      obtain ⟨_, hcl, hat⟩ := World.cells?_some hcells
      obtain ⟨ys, n2, _, _, _, hyl, hyg⟩ := DataW.trod_struct Try.underlying60 ht
      match cs', hcl with
      | [u0, u1], _ =>
        have y0 := hyg 0 _ rfl
        have y1 := hyg 1 _ rfl
        obtain ⟨w0, hw0⟩ : ∃ x0, ys[0]? = some x0 := ⟨_, List.getElem?_eq_getElem (by rw [hyl]; decide)⟩
        obtain ⟨w1, hw1⟩ : ∃ x0, ys[1]? = some x0 := ⟨_, List.getElem?_eq_getElem (by rw [hyl]; decide)⟩
        rw [hw0] at y0
        rw [hw1] at y1
        have z0 : DataW.trod enc Try.prog W 0 (fun _ => true) true n2 25 [u0] = some w0 := by simpa [hcb] using y0
        have z1 : DataW.trod enc Try.prog W 0 (fun _ => true) true n2 58 [u1] = some w1 := by simpa [hcm] using y1
        obtain ⟨l, hl1, hl2⟩ := open_row Try.underlying25 Try.underlying5 (by kernel_rfl) rfl z0
        obtain ⟨bs, hb1, hb2⟩ := bytes_of hl2
        rw [hb1, ← hb2] at hl1
        obtain ⟨x, hx, _, hwf⟩ := DataW.trod_int Try.underlying58 z1
        simp only [List.cons.injEq, and_true] at hx
        subst hx
        have hbd := bounds_u16 hwf
        have k0 := hat 0 (by omega)
        have k1 := hat 1 (by omega)
        simp only [List.getElem?_cons_zero, List.getElem?_cons_succ] at k0 k1
        obtain ⟨cs9, hcells9, _⟩ := hi 0 (by omega)
        rw [hce] at hcells9
        obtain ⟨_, hcl9, hat9⟩ := World.cells?_some hcells9
        have k9 := hat9 0 (by omega)
        rw [List.getElem?_eq_getElem (by omega)] at k9
        have hsp : a.spot = none := by
          have h := World.cell?_spot k9
          rw [Nat.zero_mul] at h
          exact h
        obtain ⟨b, off, sp⟩ := a
        dsimp only at hsp
        subst hsp
        rw [Go.WideShapes.add_plain, Go.WideShapes.add_plain] at k0 k1
        refine ⟨b, off, u0, bs, x.toNat, rfl, World.block_lt_of_cell? W _ k0, k0, ?_, hl1, by omega⟩
        rw [k1]
        congr 2
        omega
end Go.Proofs.Ytadnhjloeaddnaa
