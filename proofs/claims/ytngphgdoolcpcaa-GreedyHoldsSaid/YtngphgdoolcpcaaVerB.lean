/-
  The walks of layer 22 (plan), second part: the steps gone through, for a plan that breaks no rule; FirstError, Check.
-/
import Derived.Test.YtngphgdoolcpcaaVerA
import Derived.Test.YtngphgdoolcpcaaPlanFrom
import Derived.Test.YtngphgdoolcpcaaGrI
import Derived.Recover
import Derived.Defers
import Derived.Laws.Pointers
namespace Go.Port
open Go.RowKit
/-- A plan that breaks no rule. -/
def PlIn (l : List Sq) (size hav win : Int) (far : Bool) : Prop :=
  ∀ pre s rest, l = pre ++ s :: rest → PIn ⟨s, pre.length, endOf 0 pre, size, hav, win⟩ ∧ (far = true → PFar ⟨s, pre.length, endOf 0 pre, size, hav, win⟩)
theorem endOf_snoc1 (pre : List Sq) (s : Sq) : endOf 0 (pre ++ [s]) = endOf 0 pre + s.lit + s.len := endOf_snoc pre s 0
theorem pst_set (b : Nat) (t : TypeId) (s0 s : Sq) (num at' size hav win : Int) (w : World) (h : Blk w b (pstc ⟨s0, num, at', size, hav, win⟩) t) :
    Blk (((w.setCell ⟨b, 0, none⟩ (.int .i64 s.lit)).setCell ⟨b, 1, none⟩ (.int .i64 s.len)).setCell ⟨b, 2, none⟩ (.int .i64 s.off)) b (pstc ⟨s, num, at', size, hav, win⟩) t :=
  ((h.set 0 (.int .i64 s.lit)).set 1 (.int .i64 s.len)).set 2 (.int .i64 s.off)
end Go.Port
namespace Go.Proofs.Ytngphgdoolcpcaa
open Go.RowKit Go.Port

theorem pnop_any (x : PSt) (w : World) :
    Calls Try.prog 78 #[pstv x] w (RetV w (.tuple #[])) := by
  unfold pstv
  go_enter Try.func78, Try.ntmps78
  go_wp2
  go_end0
  exact ⟨rfl, below_new w _⟩

set_option maxRecDepth 100000 in
set_option maxHeartbeats 4000000 in
theorem pgoneF_any (l : List Sq) (a : Option Addr) (c : Nat) (size hav win : Int) (w : World) (hl : l.length ≤ 1000000) (hlc : l.length ≤ c) (hc : CellsAt w a (l.flatMap sqc)) (hv : PlIn l size hav win true) :
    Calls Try.prog 62 #[.slice a l.length c, pstv ⟨Sq.zero, 0, 0, size, hav, win⟩, .int .i64 2, .func (.func 78) #[] #[]] w fun e w' => e = .returned (.int .i64 (endOf 0 l)) ∧ Below w.heap.size w w' := by
  have HR := hid prules_any
  have HX0 := hid (Blk.new w (pstc ⟨Sq.zero, 0, 0, size, hav, win⟩) 86)
  have HB0 := hid (below_new w (.cells (pstc ⟨Sq.zero, 0, 0, size, hav, win⟩).toArray 86))
  have HM1 := hid prule1_any
  have HM2 := hid prule2_any
  have HE := hid pend_any
  have HMu := hid pmust_any
  have HF := hid pnop_any
  have HC := hid hc
  have HV := hid hv
  have HL := hid hl
  unfold pstc Sq.zero at HX0 HB0
  unfold pstv at HM1 HM2 HE HMu HF ⊢
  unfold Sq.zero
  dsimp only at HX0 HB0 ⊢
  clear hc hv hl
  go_enter Try.func62, Try.ntmps62
  go_wp2_with fail
  refine (HR.out _).mono ?_
  rintro e w1 ⟨rfl, hb1⟩
  have HX1 := hid (HX0.out.below hb1 HX0.out.lt)
  have HB1 := hid (HB0.out.trans (hb1.mono HB0.out.size))
  clear hb1 HX0 HB0
  go_wp2_with fail
  have hbn := below_new w1 (.cells #[.func (.func 86) #[] #[], .func (.func 87) #[] #[]] 140)
  have HX2 := hid (HX1.out.below hbn HX1.out.lt)
  have HB2 := hid (HB1.out.trans (hbn.mono HB1.out.size))
  have HA2 := hid (Blk.new w1 [.func (.func 86) #[] #[], .func (.func 87) #[] #[]] 140)
  have hA9 : w.heap.size < w1.heap.size := HX1.out.lt
  clear hbn HX1 HB1
  generalize w1.alloc (.cells #[.func (.func 86) #[] #[], .func (.func 87) #[] #[]] 140) = w2 at *
  generalize w1.heap.size = A9 at *
  go_loopg [10] l.length (fun g t wr => ∃ (pre rest : List Sq) (a' : Option Addr) (c' : Nat) (s0 : Sq), Hid (l = pre ++ rest ∧ CellsAt w a' (rest.flatMap sqc) ∧ rest.length ≤ c') ∧ rest.length = g ∧ t = .slice a' rest.length c' ∧ Blk wr w.heap.size (pstc ⟨s0, pre.length, endOf 0 pre, size, hav, win⟩) 86 ∧ Blk wr A9 [.func (.func 86) #[] #[], .func (.func 87) #[] #[]] 140 ∧ Below w.heap.size w wr)
  case atStart => exact ⟨[], l, a, c, Sq.zero, hid ⟨rfl, HC.out, hlc⟩, rfl, rfl, HX2.out, HA2.out, HB2.out⟩
  case round =>
    obtain ⟨pre, rest, a', c', s0, HI, hgl, rfl, hx, ha, hb⟩ := hrel
    have HGl := hid hgl
    clear hgl
    cases rest with
    | nil =>
      have hE : l = pre := by rw [HI.out.1, List.append_nil]
      subst hE
      have c4 := hx.cell (k := 4) rfl
      have HB := hid hb
      clear hx ha hb
      dsimp only at c4
      go_wp2
      go_ret
      exact ⟨rfl, HB.out⟩
    | cons s rest =>
      obtain ⟨lit, len, off⟩ := s
      have hcc := HI.out.2.1
      have hle := HI.out.2.2
      obtain ⟨bl, of', rfl, hbl, y0⟩ := hcc 0 (.int .i64 lit) rfl
      obtain ⟨_, _, e, _, y1⟩ := hcc 1 (.int .i64 len) rfl
      cases e
      obtain ⟨_, _, e, _, y2⟩ := hcc 2 (.int .i64 off) rfl
      cases e
      rw [Nat.add_zero] at y0
      replace y0 := (hb.cell (p := ⟨bl, of', none⟩) hbl).trans y0
      replace y1 := (hb.cell (p := ⟨bl, of' + 1, none⟩) hbl).trans y1
      replace y2 := (hb.cell (p := ⟨bl, of' + 2, none⟩) hbl).trans y2
      have HIn := hid (HV.out pre ⟨lit, len, off⟩ rest HI.out.1).1
      have HFar := hid ((HV.out pre ⟨lit, len, off⟩ rest HI.out.1).2 rfl)
      have hL2 : l = (pre ++ [(⟨lit, len, off⟩ : Sq)]) ++ rest := by rw [HI.out.1, List.append_assoc]; rfl
      have hpl : pre.length + rest.length + 1 ≤ 1000000 := by
        have h1 := HL.out
        rw [hL2] at h1
        simp only [List.length_append, List.length_cons, List.length_nil] at h1
        omega
      have HC2 := hid (show CellsAt w (some ⟨bl, of' + 3, none⟩) (rest.flatMap sqc) from (fun j u hu => by
        obtain ⟨b2, o2, e1, e2, e3⟩ := hcc (3 + j) u (by
          show ([_, _, _] ++ rest.flatMap sqc)[3 + j]? = some u
          rw [List.getElem?_append_right (by simp)]
          simpa using hu)
        simp only [Option.some.injEq, Addr.mk.injEq, and_true] at e1
        obtain ⟨rfl, rfl⟩ := e1
        exact ⟨bl, of' + 3, rfl, e2, by rw [Nat.add_assoc]; exact e3⟩))
      have HL2 := hid hL2
      have HPl := hid hpl
      have HX3 := hid (show Blk (((wr.setCell ⟨w.heap.size, 0, none⟩ (.int .i64 lit)).setCell ⟨w.heap.size, 1, none⟩ (.int .i64 len)).setCell ⟨w.heap.size, 2, none⟩ (.int .i64 off)) w.heap.size (pstc ⟨⟨lit, len, off⟩, pre.length, endOf 0 pre, size, hav, win⟩) 86 from pst_set w.heap.size 86 s0 ⟨lit, len, off⟩ _ _ _ _ _ wr hx)
      have hne : w.heap.size ≠ A9 := by omega
      have HA3 := hid (((ha.other (a := ⟨w.heap.size, 0, none⟩) (.int .i64 lit) hne).other (a := ⟨w.heap.size, 1, none⟩) (.int .i64 len) hne).other (a := ⟨w.heap.size, 2, none⟩) (.int .i64 off) hne)
      have HB3 := hid (((hb.setCell (p := ⟨w.heap.size, 0, none⟩) (Nat.le_refl _) (.int .i64 lit)).setCell (p := ⟨w.heap.size, 1, none⟩) (Nat.le_refl _) (.int .i64 len)).setCell (p := ⟨w.heap.size, 2, none⟩) (Nat.le_refl _) (.int .i64 off))
      have c0 := hx.cell (k := 0) rfl
      have c1 := hx.cell (k := 1) rfl
      have c2 := hx.cell (k := 2) rfl
      have z0 := hx.frozen 0
      have z1 := hx.frozen 1
      have z2 := hx.frozen 2
      simp only [List.length_cons] at hle ⊢
      have hcI : ((rest.length : Int) + 1) ≤ (c' : Int) := by omega
      have hc1 : rest.length + 1 ≤ c' := hle
      have hlI : (0 : Int) < ((rest.length + 1 : Nat) : Int) := by omega
      have hlI2 : (1 : Int) ≤ ((rest.length + 1 : Nat) : Int) := by omega
      clear hcc hx ha hb hL2 hpl HI hle
      go_wp2_with fail
      generalize ((wr.setCell ⟨w.heap.size, 0, none⟩ (.int .i64 lit)).setCell ⟨w.heap.size, 1, none⟩ (.int .i64 len)).setCell ⟨w.heap.size, 2, none⟩ (.int .i64 off) = w3 at *
      clear y0 y1 y2 c0 c1 c2 z0 z1 z2
      refine wp_loop_rounds 3 ?_
      rw [rounds_succ]
      have c0 := HX3.out.cell (k := 0) rfl
      have c1 := HX3.out.cell (k := 1) rfl
      have c2 := HX3.out.cell (k := 2) rfl
      have c3 := HX3.out.cell (k := 3) rfl
      have c4 := HX3.out.cell (k := 4) rfl
      have c5 := HX3.out.cell (k := 5) rfl
      have c6 := HX3.out.cell (k := 6) rfl
      have c7 := HX3.out.cell (k := 7) rfl
      have k0 := HA3.out.cell (k := 0) rfl
      dsimp only at c0 c1 c2 c3 c4 c5 c6 c7
      go_wp2_with fail
      have e0 := fun V : LowOf w3.heap.size w3 => V.cell c0 HX3.out.lt
      have e1 := fun V : LowOf w3.heap.size w3 => V.cell c1 HX3.out.lt
      have e2 := fun V : LowOf w3.heap.size w3 => V.cell c2 HX3.out.lt
      have e3 := fun V : LowOf w3.heap.size w3 => V.cell c3 HX3.out.lt
      have e4 := fun V : LowOf w3.heap.size w3 => V.cell c4 HX3.out.lt
      have e5 := fun V : LowOf w3.heap.size w3 => V.cell c5 HX3.out.lt
      have e6 := fun V : LowOf w3.heap.size w3 => V.cell c6 HX3.out.lt
      have e7 := fun V : LowOf w3.heap.size w3 => V.cell c7 HX3.out.lt
      have HV1 := hid (fun V : LowOf w3.heap.size w3 => Calls.low_of V (Nat.le_refl _) (HM1.out _ V.W HIn.out))
      have HV2 := hid (fun V : LowOf w3.heap.size w3 => Calls.low_of V (Nat.le_refl _) (HMu.out ⟨⟨lit, len, off⟩, pre.length, endOf 0 pre, size, hav, win⟩ V.W))
      dsimp only at HV1 HV2
      clear c0 c1 c2 c3 c4 c5 c6 c7
      clear k0
      refine wp_region_low w3.heap.size (by kernel_rfl) (by kernel_rfl) ?_
      repeat (go_big_quiet_step (first | with_reducible exact HV1.out _ | with_reducible exact HV2.out _))
      refine wpQuiet_nil ?_
      rintro _ ⟨V, rfl⟩
      clear e0 e1 e2 e3 e4 e5 e6 e7
      clear HV1 HV2
      have HX4 := hid (HX3.out.below V.below HX3.out.lt)
      have HA4 := hid (HA3.out.below V.below HA3.out.lt)
      have HB4 := hid (HB3.out.trans (V.below.mono HB3.out.size))
      generalize V.W = w4 at *
      clear V
      go_wp2_with fail
      rw [rounds_succ]
      have c0 := HX4.out.cell (k := 0) rfl
      have c1 := HX4.out.cell (k := 1) rfl
      have c2 := HX4.out.cell (k := 2) rfl
      have c3 := HX4.out.cell (k := 3) rfl
      have c4 := HX4.out.cell (k := 4) rfl
      have c5 := HX4.out.cell (k := 5) rfl
      have c6 := HX4.out.cell (k := 6) rfl
      have c7 := HX4.out.cell (k := 7) rfl
      have k1 := HA4.out.cell (k := 1) rfl
      dsimp only at c0 c1 c2 c3 c4 c5 c6 c7
      go_wp2_with fail
      have e0 := fun V : LowOf w4.heap.size w4 => V.cell c0 HX4.out.lt
      have e1 := fun V : LowOf w4.heap.size w4 => V.cell c1 HX4.out.lt
      have e2 := fun V : LowOf w4.heap.size w4 => V.cell c2 HX4.out.lt
      have e3 := fun V : LowOf w4.heap.size w4 => V.cell c3 HX4.out.lt
      have e4 := fun V : LowOf w4.heap.size w4 => V.cell c4 HX4.out.lt
      have e5 := fun V : LowOf w4.heap.size w4 => V.cell c5 HX4.out.lt
      have e6 := fun V : LowOf w4.heap.size w4 => V.cell c6 HX4.out.lt
      have e7 := fun V : LowOf w4.heap.size w4 => V.cell c7 HX4.out.lt
      have HV1 := hid (fun V : LowOf w4.heap.size w4 => Calls.low_of V (Nat.le_refl _) (HM2.out _ V.W HIn.out HFar.out))
      have HV2 := hid (fun V : LowOf w4.heap.size w4 => Calls.low_of V (Nat.le_refl _) (HMu.out ⟨⟨lit, len, off⟩, pre.length, endOf 0 pre, size, hav, win⟩ V.W))
      dsimp only at HV1 HV2
      clear c0 c1 c2 c3 c4 c5 c6 c7
      clear k1
      refine wp_region_low w4.heap.size (by kernel_rfl) (by kernel_rfl) ?_
      repeat (go_big_quiet_step (first | with_reducible exact HV1.out _ | with_reducible exact HV2.out _))
      refine wpQuiet_nil ?_
      rintro _ ⟨V, rfl⟩
      clear e0 e1 e2 e3 e4 e5 e6 e7
      clear HV1 HV2
      have HX5 := hid (HX4.out.below V.below HX4.out.lt)
      have HA5 := hid (HA4.out.below V.below HA4.out.lt)
      have HB5 := hid (HB4.out.trans (V.below.mono HB4.out.size))
      generalize V.W = w5 at *
      clear V
      go_wp2_with fail
      rw [rounds_succ]
      have c0 := HX5.out.cell (k := 0) rfl
      have c1 := HX5.out.cell (k := 1) rfl
      have c2 := HX5.out.cell (k := 2) rfl
      have c3 := HX5.out.cell (k := 3) rfl
      have c4 := HX5.out.cell (k := 4) rfl
      have c5 := HX5.out.cell (k := 5) rfl
      have c6 := HX5.out.cell (k := 6) rfl
      have c7 := HX5.out.cell (k := 7) rfl
      dsimp only at c0 c1 c2 c3 c4 c5 c6 c7
      go_wp2_with fail
      refine (HF.out ⟨⟨lit, len, off⟩, pre.length, endOf 0 pre, size, hav, win⟩ _).mono ?_
      rintro e w6 ⟨rfl, hb6⟩
      clear c0 c1 c2 c3 c4 c5 c6 c7
      have HX6 := hid (HX5.out.below hb6 HX5.out.lt)
      have HA6 := hid (HA5.out.below hb6 HA5.out.lt)
      have HB6 := hid (HB5.out.trans (hb6.mono HB5.out.size))
      have c0 := HX6.out.cell (k := 0) rfl
      have c1 := HX6.out.cell (k := 1) rfl
      have c2 := HX6.out.cell (k := 2) rfl
      have c3 := HX6.out.cell (k := 3) rfl
      have c4 := HX6.out.cell (k := 4) rfl
      have c5 := HX6.out.cell (k := 5) rfl
      have c6 := HX6.out.cell (k := 6) rfl
      have c7 := HX6.out.cell (k := 7) rfl
      dsimp only at c0 c1 c2 c3 c4 c5 c6 c7
      clear hb6
      go_wp2_with fail
      refine (HE.out _ _ HIn.out).mono ?_
      rintro e w7 ⟨rfl, hb7⟩
      dsimp only
      clear c0 c1 c2 c3 c4 c5 c6 c7
      have HX7 := hid (HX6.out.below hb7 HX6.out.lt)
      have HA7 := hid (HA6.out.below hb7 HA6.out.lt)
      have HB7 := hid (HB6.out.trans (hb7.mono HB6.out.size))
      have c0 := HX7.out.cell (k := 0) rfl
      have c1 := HX7.out.cell (k := 1) rfl
      have c2 := HX7.out.cell (k := 2) rfl
      have c3 := HX7.out.cell (k := 3) rfl
      have c4 := HX7.out.cell (k := 4) rfl
      have c5 := HX7.out.cell (k := 5) rfl
      have c6 := HX7.out.cell (k := 6) rfl
      have c7 := HX7.out.cell (k := 7) rfl
      dsimp only at c0 c1 c2 c3 c4 c5 c6 c7
      clear hb7
      have z3 := HX7.out.frozen 3
      have z4 := HX7.out.frozen 4
      have HX9 := hid ((HX7.out.set 4 (.int .i64 (endOf 0 pre + lit + len))).set 3 (.int .i64 ((pre.length : Int) + 1)))
      have HA9 := hid ((HA7.out.other (a := ⟨w.heap.size, 4, none⟩) (.int .i64 (endOf 0 pre + lit + len)) hne).other (a := ⟨w.heap.size, 3, none⟩) (.int .i64 ((pre.length : Int) + 1)) hne)
      have HB9 := hid ((HB7.out.setCell (p := ⟨w.heap.size, 4, none⟩) (Nat.le_refl _) (.int .i64 (endOf 0 pre + lit + len))).setCell (p := ⟨w.heap.size, 3, none⟩) (Nat.le_refl _) (.int .i64 ((pre.length : Int) + 1)))
      have hplI : (pre.length : Int) + 1 ≤ 1000000 := by have := HPl.out; omega
      have HFin := hid (show Blk ((w7.setCell ⟨w.heap.size, 4, none⟩ (.int .i64 (endOf 0 pre + lit + len))).setCell ⟨w.heap.size, 3, none⟩ (.int .i64 ((pre.length : Int) + 1))) w.heap.size (pstc ⟨⟨lit, len, off⟩, ((pre ++ [(⟨lit, len, off⟩ : Sq)]).length : Nat), endOf 0 (pre ++ [(⟨lit, len, off⟩ : Sq)]), size, hav, win⟩) 86 from by
        rw [endOf_snoc1, List.length_append]
        exact HX9.out)
      by_cases h1 : rest.length = 0
      · have hr : rest = [] := List.eq_nil_of_length_eq_zero h1
        subst hr
        go_wp2
        go_roundg 0
        case measure => have := HGl.out; simp only [List.length_cons] at this; omega
        case rel => exact ⟨pre ++ [(⟨lit, len, off⟩ : Sq)], [], some ⟨bl, of', none⟩, 0, ⟨lit, len, off⟩, hid ⟨HL2.out, (fun j u hu => by simp at hu), Nat.le_refl _⟩, rfl, rfl, HFin.out, HA9.out, HB9.out⟩
      · go_wp2
        go_roundg rest.length
        case measure => have := HGl.out; simp only [List.length_cons] at this; omega
        case rel => exact ⟨pre ++ [(⟨lit, len, off⟩ : Sq)], rest, some ⟨bl, of' + 3, none⟩, rest.length, ⟨lit, len, off⟩, hid ⟨HL2.out, HC2.out, Nat.le_refl _⟩, rfl, rfl, HFin.out, HA9.out, HB9.out⟩
end Go.Proofs.Ytngphgdoolcpcaa
