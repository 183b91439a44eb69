/-
  The walks of layer 22 (plan), first part: a step's methods, the two rules. The walks of layer 22 (plan), second part: the steps gone through, for a plan that breaks no rule; FirstError, Check. The walks of layer 22 (plan), third part: the steps of a plan that breaks no rule. The walks of layer 22 (plan), fourth part: the deferred 'caught' where nothing panics, FirstError, Check, steps; slices.Equal. The walks of layer 22 (plan), fifth part: Verify, for a plan of its data.
-/
import Derived.Test.YtlgablepckmogaaGreatQ03
import Derived.Test.YtlgablepckmogaaGreatQ01
import Derived.Test.YtlgablepckmogaaGreatQ05
import Derived.Test.YtlgablepckmogaaGreatQ08
import Derived.Test.YtlgablepckmogaaGreatQ11
import Derived.Test.YtlgablepckmogaaGreatQ38
import Derived.Laws.EntriesVeiled
import Derived.Recover
import Derived.Defers
import Derived.Laws.Pointers
namespace Go.Port
open Go.RowKit
/-- A step of a plan: the sequence, its number, where it begins, the data's size, what lies behind, the window. -/
structure PSt where
  s : Sq
  num : Int
  at' : Int
  size : Int
  hav : Int
  win : Int
def pstc (x : PSt) : List Value := [.int .i64 x.s.lit, .int .i64 x.s.len, .int .i64 x.s.off, .int .i64 x.num, .int .i64 x.at', .int .i64 x.size, .int .i64 x.hav, .int .i64 x.win]
def pstv (x : PSt) : Value := .agg #[.int .i64 x.s.lit, .int .i64 x.s.len, .int .i64 x.s.off, .int .i64 x.num, .int .i64 x.at', .int .i64 x.size, .int .i64 x.hav, .int .i64 x.win]
/-- The sequence lies within the data. -/
structure PIn (x : PSt) : Prop where
  at0 : 0 ≤ x.at'
  lit : 0 ≤ x.s.lit
  len : 3 ≤ x.s.len
  fin : x.at' + x.s.lit + x.s.len ≤ x.size
  max : x.size ≤ 131072
/-- Its bytes lie within the window and what lies behind. -/
structure PFar (x : PSt) : Prop where
  off : 1 ≤ x.s.off
  win : x.s.off ≤ x.win
  far : x.s.off ≤ x.hav + (x.at' + x.s.lit)
  wmax : x.win ≤ 134217728
  h0 : 0 ≤ x.hav
  hmax : x.hav ≤ 1000000
end Go.Port
namespace Go.Proofs.YtlgablepckmogaaGreat
open Go.RowKit Go.Port
theorem pmatch_any (x : PSt) (w : World) (h : PIn x) :
    Calls Tryz.prog 20 #[pstv x] w (RetV w (.int .i64 (x.at' + x.s.lit))) := by
  obtain ⟨⟨lit, len, off⟩, num, at', size, hav, win⟩ := x
  obtain ⟨h1, h2, h3, h4, h5⟩ := h
  unfold pstv
  dsimp only at *
  have hw1 : IntKind.i64.wrap (at' + lit) = at' + lit := by rw [IntKind.wrap_i64]; omega
  clear h1 h2 h3 h4 h5
  go_enter Tryz.func20, Tryz.ntmps20
  go_wp2
  go_ret
  exact ⟨rfl, below_new w _⟩
theorem pend_any (x : PSt) (w : World) (h : PIn x) :
    Calls Tryz.prog 71 #[pstv x] w (RetV w (.int .i64 (x.at' + x.s.lit + x.s.len))) := by
  have hB := below_new w (.cells (pstc x).toArray 57)
  have hX := Blk.new w (pstc x) 57
  have HM := hid (fun W' => pmatch_any x W' h)
  obtain ⟨⟨lit, len, off⟩, num, at', size, hav, win⟩ := x
  obtain ⟨h1, h2, h3, h4, h5⟩ := h
  unfold pstv at HM ⊢
  unfold pstc at hB hX
  dsimp only at *
  have hw1 : IntKind.i64.wrap (at' + lit + len) = at' + lit + len := by rw [IntKind.wrap_i64]; omega
  have HB := hid hB
  have hlt := hX.lt
  have c0 := hX.cell (k := 0) rfl
  have c1 := hX.cell (k := 1) rfl
  have c2 := hX.cell (k := 2) rfl
  have c3 := hX.cell (k := 3) rfl
  have c4 := hX.cell (k := 4) rfl
  have c5 := hX.cell (k := 5) rfl
  have c6 := hX.cell (k := 6) rfl
  have c7 := hX.cell (k := 7) rfl
  clear h1 h2 h3 h4 h5 hB hX
  go_enter Tryz.func71, Tryz.ntmps71
  go_wp2_with fail
  generalize hg : w.alloc (.cells #[.int .i64 lit, .int .i64 len, .int .i64 off, .int .i64 num, .int .i64 at', .int .i64 size, .int .i64 hav, .int .i64 win] 57) = w1 at *
  clear hg
  have e0 := fun V : LowOf w1.heap.size w1 => V.cell c0 hlt
  have e1 := fun V : LowOf w1.heap.size w1 => V.cell c1 hlt
  have e2 := fun V : LowOf w1.heap.size w1 => V.cell c2 hlt
  have e3 := fun V : LowOf w1.heap.size w1 => V.cell c3 hlt
  have e4 := fun V : LowOf w1.heap.size w1 => V.cell c4 hlt
  have e5 := fun V : LowOf w1.heap.size w1 => V.cell c5 hlt
  have e6 := fun V : LowOf w1.heap.size w1 => V.cell c6 hlt
  have e7 := fun V : LowOf w1.heap.size w1 => V.cell c7 hlt
  have HMV := hid (fun V : LowOf w1.heap.size w1 => Calls.low_of V (Nat.le_refl _) (HM.out V.W))
  clear c0 c1 c2 c3 c4 c5 c6 c7
  refine wp_region_low w1.heap.size (by kernel_rfl) (by kernel_rfl) ?_
  repeat (go_big_quiet_step (with_reducible exact HMV.out _))
  refine wpQuiet_nil ?_
  rintro _ ⟨V, rfl⟩
  have hbV := HB.out.trans (V.below.mono HB.out.size)
  go_wp2
  go_ret
  exact ⟨rfl, hbV⟩
theorem pmust_any (x : PSt) (w : World) :
    Calls Tryz.prog 70 #[pstv x, .bool true] w (RetV w (.tuple #[])) := by
  obtain ⟨⟨lit, len, off⟩, num, at', size, hav, win⟩ := x
  unfold pstv
  go_enter Tryz.func70, Tryz.ntmps70
  go_wp2
  go_end0
  exact ⟨rfl, below_new w _⟩
theorem prules_any (w : World) :
    Calls Tryz.prog 69 #[] w (RetV w (.agg #[.func (.func 90) #[] #[], .func (.func 91) #[] #[]])) := by
  go_enter Tryz.func69, Tryz.ntmps69
  go_wp2
  refine bodyPost_ret (v := .agg #[.func (.func 90) #[] #[], .func (.func 91) #[] #[]]) (by simp [results, Tryz.results69, go_sem]) rfl ⟨rfl, ?_⟩
  exact below_new w _
set_option maxRecDepth 100000 in
theorem prule1_any (x : PSt) (w : World) (h : PIn x) :
    Calls Tryz.prog 90 #[pstv x] w (RetV w (.bool true)) := by
  have hB := below_new w (.cells (pstc x).toArray 57)
  have hX := Blk.new w (pstc x) 57
  have HM := hid (fun W' => pmatch_any x W' h)
  obtain ⟨⟨lit, len, off⟩, num, at', size, hav, win⟩ := x
  obtain ⟨h1, h2, h3, h4, h5⟩ := h
  unfold pstv at HM ⊢
  unfold pstc at hB hX
  dsimp only at *
  have hw1 : IntKind.i64.wrap (size - at') = size - at' := by rw [IntKind.wrap_i64]; omega
  have hw2 : IntKind.i64.wrap (size - (at' + lit)) = size - (at' + lit) := by rw [IntKind.wrap_i64]; omega
  have d1 : decide (0 ≤ lit) = true := decide_eq_true h2
  have d2 : decide (3 ≤ len) = true := decide_eq_true h3
  have d3 : decide (lit ≤ size - at') = true := decide_eq_true (by omega)
  have d4 : decide (len ≤ size - (at' + lit)) = true := decide_eq_true (by omega)
  have HB := hid hB
  have hlt := hX.lt
  have c0 := hX.cell (k := 0) rfl
  have c1 := hX.cell (k := 1) rfl
  have c2 := hX.cell (k := 2) rfl
  have c3 := hX.cell (k := 3) rfl
  have c4 := hX.cell (k := 4) rfl
  have c5 := hX.cell (k := 5) rfl
  have c6 := hX.cell (k := 6) rfl
  have c7 := hX.cell (k := 7) rfl
  clear h1 h2 h3 h4 h5 hB hX
  go_enter Tryz.func90, Tryz.ntmps90
  go_wp2_with fail
  generalize hg : w.alloc (.cells #[.int .i64 lit, .int .i64 len, .int .i64 off, .int .i64 num, .int .i64 at', .int .i64 size, .int .i64 hav, .int .i64 win] 57) = w1 at *
  clear hg
  have e0 := fun V : LowOf w1.heap.size w1 => V.cell c0 hlt
  have e1 := fun V : LowOf w1.heap.size w1 => V.cell c1 hlt
  have e2 := fun V : LowOf w1.heap.size w1 => V.cell c2 hlt
  have e3 := fun V : LowOf w1.heap.size w1 => V.cell c3 hlt
  have e4 := fun V : LowOf w1.heap.size w1 => V.cell c4 hlt
  have e5 := fun V : LowOf w1.heap.size w1 => V.cell c5 hlt
  have e6 := fun V : LowOf w1.heap.size w1 => V.cell c6 hlt
  have e7 := fun V : LowOf w1.heap.size w1 => V.cell c7 hlt
  have HMV := hid (fun V : LowOf w1.heap.size w1 => Calls.low_of V (Nat.le_refl _) (HM.out V.W))
  clear c0 c1 c2 c3 c4 c5 c6 c7
  refine wp_region_low w1.heap.size (by kernel_rfl) (by kernel_rfl) ?_
  repeat (go_big_quiet_step (with_reducible exact HMV.out _))
  refine wpQuiet_nil ?_
  rintro _ ⟨V, rfl⟩
  have hbV := HB.out.trans (V.below.mono HB.out.size)
  go_wp2
  go_ret
  exact ⟨rfl, hbV⟩
set_option maxRecDepth 100000 in
theorem prule2_any (x : PSt) (w : World) (h : PIn x) (hf : PFar x) :
    Calls Tryz.prog 91 #[pstv x] w (RetV w (.bool true)) := by
  have hB := below_new w (.cells (pstc x).toArray 57)
  have hX := Blk.new w (pstc x) 57
  have HM := hid (fun W' => pmatch_any x W' h)
  obtain ⟨⟨lit, len, off⟩, num, at', size, hav, win⟩ := x
  obtain ⟨h1, h2, h3, h4, h5⟩ := h
  obtain ⟨f1, f2, f3, f4, f5, f6⟩ := hf
  unfold pstv at HM ⊢
  unfold pstc at hB hX
  dsimp only at *
  have hw1 : IntKind.i64.wrap (off - (at' + lit)) = off - (at' + lit) := by rw [IntKind.wrap_i64]; omega
  have d1 : decide (1 ≤ off) = true := decide_eq_true f1
  have d2 : decide (off ≤ win) = true := decide_eq_true f2
  have d3 : decide (off - (at' + lit) ≤ hav) = true := decide_eq_true (by omega)
  have HB := hid hB
  have hlt := hX.lt
  have c0 := hX.cell (k := 0) rfl
  have c1 := hX.cell (k := 1) rfl
  have c2 := hX.cell (k := 2) rfl
  have c3 := hX.cell (k := 3) rfl
  have c4 := hX.cell (k := 4) rfl
  have c5 := hX.cell (k := 5) rfl
  have c6 := hX.cell (k := 6) rfl
  have c7 := hX.cell (k := 7) rfl
  clear h1 h2 h3 h4 h5 hB hX f1 f2 f3 f4 f5 f6
  go_enter Tryz.func91, Tryz.ntmps91
  go_wp2_with fail
  generalize hg : w.alloc (.cells #[.int .i64 lit, .int .i64 len, .int .i64 off, .int .i64 num, .int .i64 at', .int .i64 size, .int .i64 hav, .int .i64 win] 57) = w1 at *
  clear hg
  have e0 := fun V : LowOf w1.heap.size w1 => V.cell c0 hlt
  have e1 := fun V : LowOf w1.heap.size w1 => V.cell c1 hlt
  have e2 := fun V : LowOf w1.heap.size w1 => V.cell c2 hlt
  have e3 := fun V : LowOf w1.heap.size w1 => V.cell c3 hlt
  have e4 := fun V : LowOf w1.heap.size w1 => V.cell c4 hlt
  have e5 := fun V : LowOf w1.heap.size w1 => V.cell c5 hlt
  have e6 := fun V : LowOf w1.heap.size w1 => V.cell c6 hlt
  have e7 := fun V : LowOf w1.heap.size w1 => V.cell c7 hlt
  have HMV := hid (fun V : LowOf w1.heap.size w1 => Calls.low_of V (Nat.le_refl _) (HM.out V.W))
  clear c0 c1 c2 c3 c4 c5 c6 c7
  refine wp_region_low w1.heap.size (by kernel_rfl) (by kernel_rfl) ?_
  repeat (go_big_quiet_step (with_reducible exact HMV.out _))
  refine wpQuiet_nil ?_
  rintro _ ⟨V, rfl⟩
  have hbV := HB.out.trans (V.below.mono HB.out.size)
  go_wp2
  go_ret
  exact ⟨rfl, hbV⟩
end Go.Proofs.YtlgablepckmogaaGreat
namespace Go.Port
open Go.RowKit
/-- A plan that breaks no rule. -/
def PlIn (l : List Sq) (size hav win : Int) (far : Bool) : Prop :=
  ∀ pre s rest, l = pre ++ s :: rest → PIn ⟨s, pre.length, endOf 0 pre, size, hav, win⟩ ∧ (far = true → PFar ⟨s, pre.length, endOf 0 pre, size, hav, win⟩)
theorem endOf_snoc1 (pre : List Sq) (s : Sq) : endOf 0 (pre ++ [s]) = endOf 0 pre + s.lit + s.len := endOf_snoc pre s 0
theorem pst_set (b : Nat) (t : TypeId) (s0 s : Sq) (num at' size hav win : Int) (w : World) (h : Blk w b (pstc ⟨s0, num, at', size, hav, win⟩) t) :
    Blk (((w.setCell ⟨b, 0, none⟩ (.int .i64 s.lit)).setCell ⟨b, 1, none⟩ (.int .i64 s.len)).setCell ⟨b, 2, none⟩ (.int .i64 s.off)) b (pstc ⟨s, num, at', size, hav, win⟩) t :=
  ((h.set 0 (.int .i64 s.lit)).set 1 (.int .i64 s.len)).set 2 (.int .i64 s.off)
end Go.Port
namespace Go.Proofs.YtlgablepckmogaaGreat
open Go.RowKit Go.Port
theorem pnop_any (x : PSt) (w : World) :
    Calls Tryz.prog 68 #[pstv x] w (RetV w (.tuple #[])) := by
  unfold pstv
  go_enter Tryz.func68, Tryz.ntmps68
  go_wp2
  go_end0
  exact ⟨rfl, below_new w _⟩
set_option maxRecDepth 100000 in
set_option maxHeartbeats 4000000 in
theorem pgoneF_any (l : List Sq) (a : Option Addr) (c : Nat) (size hav win : Int) (w : World) (hl : l.length ≤ 1000000) (hlc : l.length ≤ c) (hc : CellsAt w a (l.flatMap sqc)) (hv : PlIn l size hav win true) :
    Calls Tryz.prog 46 #[.slice a l.length c, pstv ⟨Sq.zero, 0, 0, size, hav, win⟩, .int .i64 2, .func (.func 68) #[] #[]] w fun e w' => e = .returned (.int .i64 (endOf 0 l)) ∧ Below w.heap.size w w' := by
  have HR := hid prules_any
  have HX0 := hid (Blk.new w (pstc ⟨Sq.zero, 0, 0, size, hav, win⟩) 57)
  have HB0 := hid (below_new w (.cells (pstc ⟨Sq.zero, 0, 0, size, hav, win⟩).toArray 57))
  have HM1 := hid prule1_any
  have HM2 := hid prule2_any
  have HE := hid pend_any
  have HMu := hid pmust_any
  have HF := hid pnop_any
  have HC := hid hc
  have HV := hid hv
  have HL := hid hl
  unfold pstc Sq.zero at HX0 HB0
  unfold pstv at HM1 HM2 HE HMu HF ⊢
  unfold Sq.zero
  dsimp only at HX0 HB0 ⊢
  clear hc hv hl
  go_enter Tryz.func46, Tryz.ntmps46
  go_wp2_with fail
  refine (HR.out _).mono ?_
  rintro e w1 ⟨rfl, hb1⟩
  have HX1 := hid (HX0.out.below hb1 HX0.out.lt)
  have HB1 := hid (HB0.out.trans (hb1.mono HB0.out.size))
  clear hb1 HX0 HB0
  go_wp2_with fail
  have hbn := below_new w1 (.cells #[.func (.func 90) #[] #[], .func (.func 91) #[] #[]] 135)
  have HX2 := hid (HX1.out.below hbn HX1.out.lt)
  have HB2 := hid (HB1.out.trans (hbn.mono HB1.out.size))
  have HA2 := hid (Blk.new w1 [.func (.func 90) #[] #[], .func (.func 91) #[] #[]] 135)
  have hA9 : w.heap.size < w1.heap.size := HX1.out.lt
  clear hbn HX1 HB1
  generalize w1.alloc (.cells #[.func (.func 90) #[] #[], .func (.func 91) #[] #[]] 135) = w2 at *
  generalize w1.heap.size = A9 at *
  go_loopg [10] l.length (fun g t wr => ∃ (pre rest : List Sq) (a' : Option Addr) (c' : Nat) (s0 : Sq), Hid (l = pre ++ rest ∧ CellsAt w a' (rest.flatMap sqc) ∧ rest.length ≤ c') ∧ rest.length = g ∧ t = .slice a' rest.length c' ∧ Blk wr w.heap.size (pstc ⟨s0, pre.length, endOf 0 pre, size, hav, win⟩) 57 ∧ Blk wr A9 [.func (.func 90) #[] #[], .func (.func 91) #[] #[]] 135 ∧ Below w.heap.size w wr)
  case atStart => exact ⟨[], l, a, c, Sq.zero, hid ⟨rfl, HC.out, hlc⟩, rfl, rfl, HX2.out, HA2.out, HB2.out⟩
  case round =>
    obtain ⟨pre, rest, a', c', s0, HI, hgl, rfl, hx, ha, hb⟩ := hrel
    have HGl := hid hgl
    clear hgl
    cases rest with
    | nil =>
      have hE : l = pre := by rw [HI.out.1, List.append_nil]
      subst hE
      have c4 := hx.cell (k := 4) rfl
      have HB := hid hb
      clear hx ha hb
      dsimp only at c4
      go_wp2
      go_ret
      exact ⟨rfl, HB.out⟩
    | cons s rest =>
      obtain ⟨lit, len, off⟩ := s
      have hcc := HI.out.2.1
      have hle := HI.out.2.2
      obtain ⟨bl, of', rfl, hbl, y0⟩ := hcc 0 (.int .i64 lit) rfl
      obtain ⟨_, _, e, _, y1⟩ := hcc 1 (.int .i64 len) rfl
      cases e
      obtain ⟨_, _, e, _, y2⟩ := hcc 2 (.int .i64 off) rfl
      cases e
      rw [Nat.add_zero] at y0
      replace y0 := (hb.cell (p := ⟨bl, of', none⟩) hbl).trans y0
      replace y1 := (hb.cell (p := ⟨bl, of' + 1, none⟩) hbl).trans y1
      replace y2 := (hb.cell (p := ⟨bl, of' + 2, none⟩) hbl).trans y2
      have HIn := hid (HV.out pre ⟨lit, len, off⟩ rest HI.out.1).1
      have HFar := hid ((HV.out pre ⟨lit, len, off⟩ rest HI.out.1).2 rfl)
      have hL2 : l = (pre ++ [(⟨lit, len, off⟩ : Sq)]) ++ rest := by rw [HI.out.1, List.append_assoc]; rfl
      have hpl : pre.length + rest.length + 1 ≤ 1000000 := by
        have h1 := HL.out
        rw [hL2] at h1
        simp only [List.length_append, List.length_cons, List.length_nil] at h1
        omega
      have HC2 := hid (show CellsAt w (some ⟨bl, of' + 3, none⟩) (rest.flatMap sqc) from (fun j u hu => by
        obtain ⟨b2, o2, e1, e2, e3⟩ := hcc (3 + j) u (by
          show ([_, _, _] ++ rest.flatMap sqc)[3 + j]? = some u
          rw [List.getElem?_append_right (by simp)]
          simpa using hu)
        simp only [Option.some.injEq, Addr.mk.injEq, and_true] at e1
        obtain ⟨rfl, rfl⟩ := e1
        exact ⟨bl, of' + 3, rfl, e2, by rw [Nat.add_assoc]; exact e3⟩))
      have HL2 := hid hL2
      have HPl := hid hpl
      have HX3 := hid (show Blk (((wr.setCell ⟨w.heap.size, 0, none⟩ (.int .i64 lit)).setCell ⟨w.heap.size, 1, none⟩ (.int .i64 len)).setCell ⟨w.heap.size, 2, none⟩ (.int .i64 off)) w.heap.size (pstc ⟨⟨lit, len, off⟩, pre.length, endOf 0 pre, size, hav, win⟩) 57 from pst_set w.heap.size 57 s0 ⟨lit, len, off⟩ _ _ _ _ _ wr hx)
      have hne : w.heap.size ≠ A9 := by omega
      have HA3 := hid (((ha.other (a := ⟨w.heap.size, 0, none⟩) (.int .i64 lit) hne).other (a := ⟨w.heap.size, 1, none⟩) (.int .i64 len) hne).other (a := ⟨w.heap.size, 2, none⟩) (.int .i64 off) hne)
      have HB3 := hid (((hb.setCell (p := ⟨w.heap.size, 0, none⟩) (Nat.le_refl _) (.int .i64 lit)).setCell (p := ⟨w.heap.size, 1, none⟩) (Nat.le_refl _) (.int .i64 len)).setCell (p := ⟨w.heap.size, 2, none⟩) (Nat.le_refl _) (.int .i64 off))
      have c0 := hx.cell (k := 0) rfl
      have c1 := hx.cell (k := 1) rfl
      have c2 := hx.cell (k := 2) rfl
      have z0 := hx.frozen 0
      have z1 := hx.frozen 1
      have z2 := hx.frozen 2
      simp only [List.length_cons] at hle ⊢
      have hcI : ((rest.length : Int) + 1) ≤ (c' : Int) := by omega
      have hc1 : rest.length + 1 ≤ c' := hle
      have hlI : (0 : Int) < ((rest.length + 1 : Nat) : Int) := by omega
      have hlI2 : (1 : Int) ≤ ((rest.length + 1 : Nat) : Int) := by omega
      clear hcc hx ha hb hL2 hpl HI hle
      go_wp2_with fail
      generalize ((wr.setCell ⟨w.heap.size, 0, none⟩ (.int .i64 lit)).setCell ⟨w.heap.size, 1, none⟩ (.int .i64 len)).setCell ⟨w.heap.size, 2, none⟩ (.int .i64 off) = w3 at *
      clear y0 y1 y2 c0 c1 c2 z0 z1 z2
      refine wp_loop_rounds 3 ?_
      rw [rounds_succ]
      have c0 := HX3.out.cell (k := 0) rfl
      have c1 := HX3.out.cell (k := 1) rfl
      have c2 := HX3.out.cell (k := 2) rfl
      have c3 := HX3.out.cell (k := 3) rfl
      have c4 := HX3.out.cell (k := 4) rfl
      have c5 := HX3.out.cell (k := 5) rfl
      have c6 := HX3.out.cell (k := 6) rfl
      have c7 := HX3.out.cell (k := 7) rfl
      have k0 := HA3.out.cell (k := 0) rfl
      dsimp only at c0 c1 c2 c3 c4 c5 c6 c7
      go_wp2_with fail
      have e0 := fun V : LowOf w3.heap.size w3 => V.cell c0 HX3.out.lt
      have e1 := fun V : LowOf w3.heap.size w3 => V.cell c1 HX3.out.lt
      have e2 := fun V : LowOf w3.heap.size w3 => V.cell c2 HX3.out.lt
      have e3 := fun V : LowOf w3.heap.size w3 => V.cell c3 HX3.out.lt
      have e4 := fun V : LowOf w3.heap.size w3 => V.cell c4 HX3.out.lt
      have e5 := fun V : LowOf w3.heap.size w3 => V.cell c5 HX3.out.lt
      have e6 := fun V : LowOf w3.heap.size w3 => V.cell c6 HX3.out.lt
      have e7 := fun V : LowOf w3.heap.size w3 => V.cell c7 HX3.out.lt
      have HV1 := hid (fun V : LowOf w3.heap.size w3 => Calls.low_of V (Nat.le_refl _) (HM1.out _ V.W HIn.out))
      have HV2 := hid (fun V : LowOf w3.heap.size w3 => Calls.low_of V (Nat.le_refl _) (HMu.out ⟨⟨lit, len, off⟩, pre.length, endOf 0 pre, size, hav, win⟩ V.W))
      dsimp only at HV1 HV2
      clear c0 c1 c2 c3 c4 c5 c6 c7
      clear k0
      refine wp_region_low w3.heap.size (by kernel_rfl) (by kernel_rfl) ?_
      repeat (go_big_quiet_step (first | with_reducible exact HV1.out _ | with_reducible exact HV2.out _))
      refine wpQuiet_nil ?_
      rintro _ ⟨V, rfl⟩
      clear e0 e1 e2 e3 e4 e5 e6 e7
      clear HV1 HV2
      have HX4 := hid (HX3.out.below V.below HX3.out.lt)
      have HA4 := hid (HA3.out.below V.below HA3.out.lt)
      have HB4 := hid (HB3.out.trans (V.below.mono HB3.out.size))
      generalize V.W = w4 at *
      clear V
      go_wp2_with fail
      rw [rounds_succ]
      have c0 := HX4.out.cell (k := 0) rfl
      have c1 := HX4.out.cell (k := 1) rfl
      have c2 := HX4.out.cell (k := 2) rfl
      have c3 := HX4.out.cell (k := 3) rfl
      have c4 := HX4.out.cell (k := 4) rfl
      have c5 := HX4.out.cell (k := 5) rfl
      have c6 := HX4.out.cell (k := 6) rfl
      have c7 := HX4.out.cell (k := 7) rfl
      have k1 := HA4.out.cell (k := 1) rfl
      dsimp only at c0 c1 c2 c3 c4 c5 c6 c7
      go_wp2_with fail
      have e0 := fun V : LowOf w4.heap.size w4 => V.cell c0 HX4.out.lt
      have e1 := fun V : LowOf w4.heap.size w4 => V.cell c1 HX4.out.lt
      have e2 := fun V : LowOf w4.heap.size w4 => V.cell c2 HX4.out.lt
      have e3 := fun V : LowOf w4.heap.size w4 => V.cell c3 HX4.out.lt
      have e4 := fun V : LowOf w4.heap.size w4 => V.cell c4 HX4.out.lt
      have e5 := fun V : LowOf w4.heap.size w4 => V.cell c5 HX4.out.lt
      have e6 := fun V : LowOf w4.heap.size w4 => V.cell c6 HX4.out.lt
      have e7 := fun V : LowOf w4.heap.size w4 => V.cell c7 HX4.out.lt
      have HV1 := hid (fun V : LowOf w4.heap.size w4 => Calls.low_of V (Nat.le_refl _) (HM2.out _ V.W HIn.out HFar.out))
      have HV2 := hid (fun V : LowOf w4.heap.size w4 => Calls.low_of V (Nat.le_refl _) (HMu.out ⟨⟨lit, len, off⟩, pre.length, endOf 0 pre, size, hav, win⟩ V.W))
      dsimp only at HV1 HV2
      clear c0 c1 c2 c3 c4 c5 c6 c7
      clear k1
      refine wp_region_low w4.heap.size (by kernel_rfl) (by kernel_rfl) ?_
      repeat (go_big_quiet_step (first | with_reducible exact HV1.out _ | with_reducible exact HV2.out _))
      refine wpQuiet_nil ?_
      rintro _ ⟨V, rfl⟩
      clear e0 e1 e2 e3 e4 e5 e6 e7
      clear HV1 HV2
      have HX5 := hid (HX4.out.below V.below HX4.out.lt)
      have HA5 := hid (HA4.out.below V.below HA4.out.lt)
      have HB5 := hid (HB4.out.trans (V.below.mono HB4.out.size))
      generalize V.W = w5 at *
      clear V
      go_wp2_with fail
      rw [rounds_succ]
      have c0 := HX5.out.cell (k := 0) rfl
      have c1 := HX5.out.cell (k := 1) rfl
      have c2 := HX5.out.cell (k := 2) rfl
      have c3 := HX5.out.cell (k := 3) rfl
      have c4 := HX5.out.cell (k := 4) rfl
      have c5 := HX5.out.cell (k := 5) rfl
      have c6 := HX5.out.cell (k := 6) rfl
      have c7 := HX5.out.cell (k := 7) rfl
      dsimp only at c0 c1 c2 c3 c4 c5 c6 c7
      go_wp2_with fail
      refine (HF.out ⟨⟨lit, len, off⟩, pre.length, endOf 0 pre, size, hav, win⟩ _).mono ?_
      rintro e w6 ⟨rfl, hb6⟩
      clear c0 c1 c2 c3 c4 c5 c6 c7
      have HX6 := hid (HX5.out.below hb6 HX5.out.lt)
      have HA6 := hid (HA5.out.below hb6 HA5.out.lt)
      have HB6 := hid (HB5.out.trans (hb6.mono HB5.out.size))
      have c0 := HX6.out.cell (k := 0) rfl
      have c1 := HX6.out.cell (k := 1) rfl
      have c2 := HX6.out.cell (k := 2) rfl
      have c3 := HX6.out.cell (k := 3) rfl
      have c4 := HX6.out.cell (k := 4) rfl
      have c5 := HX6.out.cell (k := 5) rfl
      have c6 := HX6.out.cell (k := 6) rfl
      have c7 := HX6.out.cell (k := 7) rfl
      dsimp only at c0 c1 c2 c3 c4 c5 c6 c7
      clear hb6
      go_wp2_with fail
      refine (HE.out _ _ HIn.out).mono ?_
      rintro e w7 ⟨rfl, hb7⟩
      dsimp only
      clear c0 c1 c2 c3 c4 c5 c6 c7
      have HX7 := hid (HX6.out.below hb7 HX6.out.lt)
      have HA7 := hid (HA6.out.below hb7 HA6.out.lt)
      have HB7 := hid (HB6.out.trans (hb7.mono HB6.out.size))
      have c0 := HX7.out.cell (k := 0) rfl
      have c1 := HX7.out.cell (k := 1) rfl
      have c2 := HX7.out.cell (k := 2) rfl
      have c3 := HX7.out.cell (k := 3) rfl
      have c4 := HX7.out.cell (k := 4) rfl
      have c5 := HX7.out.cell (k := 5) rfl
      have c6 := HX7.out.cell (k := 6) rfl
      have c7 := HX7.out.cell (k := 7) rfl
      dsimp only at c0 c1 c2 c3 c4 c5 c6 c7
      clear hb7
      have z3 := HX7.out.frozen 3
      have z4 := HX7.out.frozen 4
      have HX9 := hid ((HX7.out.set 4 (.int .i64 (endOf 0 pre + lit + len))).set 3 (.int .i64 ((pre.length : Int) + 1)))
      have HA9 := hid ((HA7.out.other (a := ⟨w.heap.size, 4, none⟩) (.int .i64 (endOf 0 pre + lit + len)) hne).other (a := ⟨w.heap.size, 3, none⟩) (.int .i64 ((pre.length : Int) + 1)) hne)
      have HB9 := hid ((HB7.out.setCell (p := ⟨w.heap.size, 4, none⟩) (Nat.le_refl _) (.int .i64 (endOf 0 pre + lit + len))).setCell (p := ⟨w.heap.size, 3, none⟩) (Nat.le_refl _) (.int .i64 ((pre.length : Int) + 1)))
      have hplI : (pre.length : Int) + 1 ≤ 1000000 := by have := HPl.out; omega
      have HFin := hid (show Blk ((w7.setCell ⟨w.heap.size, 4, none⟩ (.int .i64 (endOf 0 pre + lit + len))).setCell ⟨w.heap.size, 3, none⟩ (.int .i64 ((pre.length : Int) + 1))) w.heap.size (pstc ⟨⟨lit, len, off⟩, ((pre ++ [(⟨lit, len, off⟩ : Sq)]).length : Nat), endOf 0 (pre ++ [(⟨lit, len, off⟩ : Sq)]), size, hav, win⟩) 57 from by
        rw [endOf_snoc1, List.length_append]
        exact HX9.out)
      by_cases h1 : rest.length = 0
      · have hr : rest = [] := List.eq_nil_of_length_eq_zero h1
        subst hr
        go_wp2
        go_roundg 0
        case measure => have := HGl.out; simp only [List.length_cons] at this; omega
        case rel => exact ⟨pre ++ [(⟨lit, len, off⟩ : Sq)], [], some ⟨bl, of', none⟩, 0, ⟨lit, len, off⟩, hid ⟨HL2.out, (fun j u hu => by simp at hu), Nat.le_refl _⟩, rfl, rfl, HFin.out, HA9.out, HB9.out⟩
      · go_wp2
        go_roundg rest.length
        case measure => have := HGl.out; simp only [List.length_cons] at this; omega
        case rel => exact ⟨pre ++ [(⟨lit, len, off⟩ : Sq)], rest, some ⟨bl, of' + 3, none⟩, rest.length, ⟨lit, len, off⟩, hid ⟨HL2.out, HC2.out, Nat.le_refl _⟩, rfl, rfl, HFin.out, HA9.out, HB9.out⟩
end Go.Proofs.YtlgablepckmogaaGreat
namespace Go.Port
open Go.RowKit
/-- Blocks below B lie as they lay, but one. -/
structure KeepLow (B : Nat) (row : Option Nat) (W W' : World) : Prop where
  os : W'.os = W.os
  tape : W'.tape = W.tape
  output : W'.output = W.output
  size : W.heap.size ≤ W'.heap.size
  block : ∀ k, k < B → some k ≠ row → W'.heap[k]? = W.heap[k]?
theorem KeepLow.refl (B : Nat) (row : Option Nat) (W : World) : KeepLow B row W W := ⟨rfl, rfl, rfl, Nat.le_refl _, fun _ _ _ => rfl⟩
theorem KeepLow.trans {B : Nat} {row : Option Nat} {W W1 W2 : World} (h : KeepLow B row W W1) (k : KeepLow B row W1 W2) : KeepLow B row W W2 :=
  ⟨k.os.trans h.os, k.tape.trans h.tape, k.output.trans h.output, Nat.le_trans h.size k.size, fun j hj hr => (k.block j hj hr).trans (h.block j hj hr)⟩
theorem KeepLow.of_below {B : Nat} {row : Option Nat} {W W1 : World} (h : Below B W W1) : KeepLow B row W W1 := ⟨h.os, h.tape, h.output, h.size, fun k hk _ => h.block k hk⟩
theorem KeepLow.mono {B B' : Nat} {row : Option Nat} {W W1 : World} (h : KeepLow B row W W1) (hB : B' ≤ B) : KeepLow B' row W W1 := ⟨h.os, h.tape, h.output, h.size, fun k hk hr => h.block k (Nat.lt_of_lt_of_le hk hB) hr⟩
theorem KeepLow.set {B : Nat} {row : Option Nat} {W W1 : World} (h : KeepLow B row W W1) (a : Addr) (u : Value) (ha : B ≤ a.block ∨ row = some a.block) : KeepLow B row W (W1.setCell a u) :=
  ⟨h.os, h.tape, h.output, by simpa using h.size, fun k hk hr => (Below.heap_setCell W1 a u k (by
    intro e
    rcases ha with ha | ha
    · omega
    · exact hr (by rw [ha, e]))).trans (h.block k hk hr)⟩
theorem KeepLow.blk {B : Nat} {row : Option Nat} {W W1 : World} (h : KeepLow B row W W1) {b : Nat} {vs : List Value} {t : TypeId} (hb : Blk W b vs t) (hB : b < B) (hr : some b ≠ row) : Blk W1 b vs t := (h.block b hB hr).trans hb
/-- .. but one that lies from B' on. -/
theorem KeepLow.below {B B' c : Nat} {W W1 : World} (h : KeepLow B (some c) W W1) (hB : B' ≤ B) (hc : B' ≤ c) : Below B' W W1 := ⟨h.os, h.tape, h.output, h.size, fun k hk => h.block k (by omega) (fun e => by cases e; omega)⟩
def pstsGo (size hav win : Int) : Int → Int → List Sq → List PSt
  | _, _, [] => []
  | n, p, s :: r => ⟨s, n, p, size, hav, win⟩ :: pstsGo size hav win (n + 1) (p + s.lit + s.len) r
/-- The steps of a plan. -/
def psts (size hav win : Int) (l : List Sq) : List PSt := pstsGo size hav win 0 0 l
theorem pstsGo_snoc (size hav win : Int) (x : Sq) : ∀ (l : List Sq) (n p : Int), pstsGo size hav win n p (l ++ [x]) = pstsGo size hav win n p l ++ [⟨x, n + l.length, endOf p l, size, hav, win⟩] := by
  intro l
  induction l with
  | nil => intro n p; simp [pstsGo, endOf]
  | cons s r ih =>
    intro n p
    simp only [List.cons_append, pstsGo, ih, endOf, List.length_cons]
    congr 4
    omega
theorem psts_snoc (size hav win : Int) (x : Sq) (l : List Sq) : psts size hav win (l ++ [x]) = psts size hav win l ++ [⟨x, l.length, endOf 0 l, size, hav, win⟩] := by
  unfold psts
  rw [pstsGo_snoc, Int.zero_add]
theorem pstc_length (l : List PSt) : (l.flatMap pstc).length = l.length * 8 := by
  induction l with
  | nil => rfl
  | cons x r ih => simp only [List.flatMap_cons, List.length_append, ih, List.length_cons, pstc, List.length_nil]; omega
theorem pstsGo_get (size hav win : Int) : ∀ (l : List Sq) (n p : Int) (k : Nat) (s : Sq), l[k]? = some s → (pstsGo size hav win n p l)[k]? = some ⟨s, n + k, endOf p (l.take k), size, hav, win⟩ := by
  intro l
  induction l with
  | nil => intro n p k s h; simp at h
  | cons x r ih =>
    intro n p k s h
    cases k with
    | zero =>
      simp only [List.getElem?_cons_zero, Option.some.injEq] at h
      subst h
      simp [pstsGo, endOf]
    | succ k =>
      simp only [List.getElem?_cons_succ] at h
      have := ih (n + 1) (p + x.lit + x.len) k s h
      simp only [pstsGo, List.getElem?_cons_succ, this, List.take_succ_cons, endOf]
      congr 2
      omega
theorem pst_getc {l : List PSt} {k : Nat} {x : PSt} (h : l[k]? = some x) (j : Nat) (hj : j < 8) : (l.flatMap pstc)[k * 8 + j]? = (pstc x)[j]? := by
  obtain ⟨h1, h2⟩ := List.getElem?_eq_some_iff.1 h
  have hl : ((l.take k).flatMap pstc).length = k * 8 := by rw [pstc_length, List.length_take, Nat.min_eq_left (Nat.le_of_lt h1)]
  have e2 : l.flatMap pstc = (l.take k).flatMap pstc ++ (pstc l[k] ++ (l.drop (k + 1)).flatMap pstc) := by
    conv => lhs; rw [← List.take_append_drop k l, List.drop_eq_getElem_cons h1]
    rw [List.flatMap_append, List.flatMap_cons]
  subst h2
  rw [e2, List.getElem?_append_right (by omega), hl, Nat.add_sub_cancel_left, List.getElem?_append_left (by simp [pstc]; omega)]
end Go.Port
namespace Go.Proofs.YtlgablepckmogaaGreat
open Go.RowKit Go.Port
theorem Tryz.info_pst : (Tryz.prog.info? 57).map (fun i => (i.zero, i.size, i.bytes)) = some (some (.agg #[.int .i64 0, .int .i64 0, .int .i64 0, .int .i64 0, .int .i64 0, .int .i64 0, .int .i64 0, .int .i64 0]), 8, 64) := by kernel_rfl
set_option maxRecDepth 100000 in
set_option maxHeartbeats 4000000 in
theorem pstep1_any (x : PSt) (c B1 n : Nat) (v : Value) (xs : List Value) (w : World) (hc : Blk w c [v] 53) (hown : w.ownsRow B1 57 8 v n xs) (hn : n + 1 ≤ 1000000) (hB : B1 ≤ w.heap.size) (hcB : c < B1) :
    Calls Tryz.prog 47 #[pstv x, .pointer (some ⟨c, 0, none⟩)] w fun e w' => e = .returned (.tuple #[]) ∧ (∃ v', Blk w' c [v'] 53 ∧ w'.ownsRow B1 57 8 v' (n + 1) (xs ++ pstc x)) ∧ KeepLow B1 (some c) w w' := by
  obtain ⟨⟨lit, len, off⟩, num, at', size, hav, win⟩ := x
  obtain ⟨av, cv, rfl⟩ := own_slice hown
  have HO := hid (hown.alloc (.cells (pstc ⟨⟨lit, len, off⟩, num, at', size, hav, win⟩).toArray 57))
  have HC := hid (hc.alloc (.cells (pstc ⟨⟨lit, len, off⟩, num, at', size, hav, win⟩).toArray 57))
  have HK := hid (show KeepLow B1 (some c) w _ from KeepLow.of_below ((below_new w (.cells (pstc ⟨⟨lit, len, off⟩, num, at', size, hav, win⟩).toArray 57)).mono hB))
  have hB' : B1 ≤ (w.alloc (.cells (pstc ⟨⟨lit, len, off⟩, num, at', size, hav, win⟩).toArray 57)).heap.size := by simp; omega
  have c0 := HC.out.cell (k := 0) rfl
  have HX := hid (Blk.new w (pstc ⟨⟨lit, len, off⟩, num, at', size, hav, win⟩) 57)
  unfold pstc at HO HC HK c0 hB' HX
  unfold pstv pstc
  dsimp only at HO HC HK c0 hB' HX ⊢
  clear hc hown hB
  go_enter Tryz.func47, Tryz.ntmps47
  go_upto_region 1 with fail
  generalize (w.alloc (.cells #[.int .i64 lit, .int .i64 len, .int .i64 off, .int .i64 num, .int .i64 at', .int .i64 size, .int .i64 hav, .int .i64 win] 57)) = w1 at *
  have x0 := HX.out.cell (k := 0) rfl
  have x1 := HX.out.cell (k := 1) rfl
  have x2 := HX.out.cell (k := 2) rfl
  have x3 := HX.out.cell (k := 3) rfl
  have x4 := HX.out.cell (k := 4) rfl
  have x5 := HX.out.cell (k := 5) rfl
  have x6 := HX.out.cell (k := 6) rfl
  have x7 := HX.out.cell (k := 7) rfl
  go_wp2_with (at_builtin; refine Hid.out ?_)
  clear x0 x1 x2 x3 x4 x5 x6 x7
  refine hid ?_
  refine wpList_append1 rfl _ _ 53 rfl 57 _ 8 64 Tryz.underlying53 Tryz.info_pst rfl (by decide) (by decide) _ B1 _ _ _ [.int .i64 lit, .int .i64 len, .int .i64 off, .int .i64 num, .int .i64 at', .int .i64 size, .int .i64 hav, .int .i64 win] rfl ?hu rfl rfl (by exact HO.out) ?hn hB' ?hk
  case hu => simp [Value.oneCell']
  case hn => omega
  case hk =>
    intro v' w3 hown' hg
    obtain ⟨a2, c2, rfl⟩ := own_slice hown'
    have hbg := below_grown HO.out hg hB'
    have hc3 := HC.out.below hbg hcB
    have d0 := hc3.cell (k := 0) rfl
    have z0 := hc3.frozen 0
    have HC3 := hid (hc3.set 0 (.slice a2 (n + 1) c2))
    have HO3 := hid (ownsRow_setCell_other hown' (a := ⟨c, 0, none⟩) (fun e => by have h := (hown'.lt _ e).1; change B1 ≤ c at h; omega) (.slice a2 (n + 1) c2))
    have HK3 := hid ((HK.out.trans (KeepLow.of_below hbg)).set ⟨c, 0, none⟩ (.slice a2 (n + 1) c2) (.inr rfl))
    clear hown' hg hbg hc3 c0
    go_wp2
    go_end0
    exact ⟨rfl, ⟨_, HC3.out, HO3.out⟩, HK3.out⟩
set_option maxRecDepth 100000 in
set_option maxHeartbeats 4000000 in
theorem pgoneS_any (l : List Sq) (a : Option Addr) (c cb : Nat) (w0 w : World) (hl : l.length ≤ 900000) (hlc : l.length ≤ c) (hw : Below w0.heap.size w0 w) (hcb0 : w0.heap.size ≤ cb) (hcb : Blk w cb [.slice none 0 0] 53) (hc : CellsAt w0 a (l.flatMap sqc)) (hv : PlIn l 131072 0 0 false) :
    Calls Tryz.prog 46 #[.slice a l.length c, pstv ⟨Sq.zero, 0, 0, 131072, 0, 0⟩, .int .i64 1, .func (.func 47) #[] #[.pointer (some ⟨cb, 0, none⟩)]] w fun e w' => e = .returned (.int .i64 (endOf 0 l)) ∧
      (∃ v, Blk w' cb [v] 53 ∧ w'.ownsRow w.heap.size 57 8 v l.length ((psts 131072 0 0 l).flatMap pstc)) ∧ KeepLow w.heap.size (some cb) w w' := by
  have HR := hid prules_any
  have HX0 := hid (Blk.new w (pstc ⟨Sq.zero, 0, 0, 131072, 0, 0⟩) 57)
  have HB0 := hid (below_new w (.cells (pstc ⟨Sq.zero, 0, 0, 131072, 0, 0⟩).toArray 57))
  have HM1 := hid prule1_any
  have HE := hid pend_any
  have HMu := hid pmust_any
  have HF := hid pstep1_any
  have HC := hid hc
  have HV := hid hv
  have HL := hid hl
  have HW := hid hw
  have HD0 := hid hcb
  have hcl := hcb.lt
  unfold pstc Sq.zero at HX0 HB0
  unfold pstv at HM1 HE HMu HF ⊢
  unfold Sq.zero
  dsimp only at HX0 HB0 ⊢
  clear hc hv hl hw hcb
  go_enter Tryz.func46, Tryz.ntmps46
  go_wp2_with fail
  refine (HR.out _).mono ?_
  rintro e w1 ⟨rfl, hb1⟩
  have HX1 := hid (HX0.out.below hb1 HX0.out.lt)
  have HB1 := hid (HB0.out.trans (hb1.mono HB0.out.size))
  clear hb1 HX0 HB0
  go_wp2_with fail
  have hbn := below_new w1 (.cells #[.func (.func 90) #[] #[], .func (.func 91) #[] #[]] 135)
  have HX2 := hid (HX1.out.below hbn HX1.out.lt)
  have HB2 := hid (HB1.out.trans (hbn.mono HB1.out.size))
  have HA2 := hid (Blk.new w1 [.func (.func 90) #[] #[], .func (.func 91) #[] #[]] 135)
  have hA9 : w.heap.size < w1.heap.size := HX1.out.lt
  clear hbn HX1 HB1
  have hA2 := HA2.out.lt
  generalize w1.alloc (.cells #[.func (.func 90) #[] #[], .func (.func 91) #[] #[]] 135) = w2 at *
  generalize w1.heap.size = A9 at *
  have HD2 := hid (HD0.out.below HB2.out hcl)
  have hB2 : w.heap.size ≤ w2.heap.size := HB2.out.size
  clear HD0
  go_loopg [10] l.length (fun g t wr => ∃ (pre rest : List Sq) (a' : Option Addr) (c' : Nat) (s0 : Sq) (v : Value), Hid (l = pre ++ rest ∧ CellsAt w0 a' (rest.flatMap sqc) ∧ rest.length ≤ c') ∧ rest.length = g ∧ t = .slice a' rest.length c' ∧ Blk wr w.heap.size (pstc ⟨s0, pre.length, endOf 0 pre, 131072, 0, 0⟩) 57 ∧ Blk wr A9 [.func (.func 90) #[] #[], .func (.func 91) #[] #[]] 135 ∧ Blk wr cb [v] 53 ∧ wr.ownsRow w2.heap.size 57 8 v pre.length ((psts 131072 0 0 pre).flatMap pstc) ∧ w2.heap.size ≤ wr.heap.size ∧ KeepLow w.heap.size (some cb) w wr)
  case atStart => exact ⟨[], l, a, c, Sq.zero, _, hid ⟨rfl, HC.out, hlc⟩, rfl, rfl, HX2.out, HA2.out, HD2.out, World.ownsRow_nil _ _ _ _, Nat.le_refl _, KeepLow.of_below HB2.out⟩
  case round =>
    obtain ⟨pre, rest, a', c', s0, v, HI, hgl, rfl, hx, ha, hd, ho, hsz, hb⟩ := hrel
    have HGl := hid hgl
    clear hgl
    cases rest with
    | nil =>
      have hE : l = pre := by rw [HI.out.1, List.append_nil]
      subst hE
      have c4 := hx.cell (k := 4) rfl
      have HB := hid hb
      have HD := hid hd
      have HO := hid (own_le ho hB2)
      clear hx ha hb hd ho
      dsimp only at c4
      go_wp2
      go_ret
      exact ⟨rfl, ⟨_, HD.out, HO.out⟩, HB.out⟩
    | cons s rest =>
      obtain ⟨lit, len, off⟩ := s
      have hcc := HI.out.2.1
      have hle := HI.out.2.2
      obtain ⟨bl, of', rfl, hbl, y0⟩ := hcc 0 (.int .i64 lit) rfl
      obtain ⟨_, _, e, _, y1⟩ := hcc 1 (.int .i64 len) rfl
      cases e
      obtain ⟨_, _, e, _, y2⟩ := hcc 2 (.int .i64 off) rfl
      cases e
      rw [Nat.add_zero] at y0
      have hb0 : Below w0.heap.size w0 wr := HW.out.trans (hb.below HW.out.size hcb0)
      replace y0 := (hb0.cell (p := ⟨bl, of', none⟩) hbl).trans y0
      replace y1 := (hb0.cell (p := ⟨bl, of' + 1, none⟩) hbl).trans y1
      replace y2 := (hb0.cell (p := ⟨bl, of' + 2, none⟩) hbl).trans y2
      have HIn := hid (HV.out pre ⟨lit, len, off⟩ rest HI.out.1).1
      have hL2 : l = (pre ++ [(⟨lit, len, off⟩ : Sq)]) ++ rest := by rw [HI.out.1, List.append_assoc]; rfl
      have hpl : pre.length + rest.length + 1 ≤ 900000 := by
        have h1 := HL.out
        rw [hL2] at h1
        simp only [List.length_append, List.length_cons, List.length_nil] at h1
        omega
      have HC2 := hid (show CellsAt w0 (some ⟨bl, of' + 3, none⟩) (rest.flatMap sqc) from (fun j u hu => by
        obtain ⟨b2, o2, e1, e2, e3⟩ := hcc (3 + j) u (by
          show ([_, _, _] ++ rest.flatMap sqc)[3 + j]? = some u
          rw [List.getElem?_append_right (by simp)]
          simpa using hu)
        simp only [Option.some.injEq, Addr.mk.injEq, and_true] at e1
        obtain ⟨rfl, rfl⟩ := e1
        exact ⟨bl, of' + 3, rfl, e2, by rw [Nat.add_assoc]; exact e3⟩))
      have HL2 := hid hL2
      have HPl := hid hpl
      have HX3 := hid (show Blk (((wr.setCell ⟨w.heap.size, 0, none⟩ (.int .i64 lit)).setCell ⟨w.heap.size, 1, none⟩ (.int .i64 len)).setCell ⟨w.heap.size, 2, none⟩ (.int .i64 off)) w.heap.size (pstc ⟨⟨lit, len, off⟩, pre.length, endOf 0 pre, 131072, 0, 0⟩) 57 from pst_set w.heap.size 57 s0 ⟨lit, len, off⟩ _ _ _ _ _ wr hx)
      have hne : w.heap.size ≠ A9 := by omega
      have hne2 : w.heap.size ≠ cb := by omega
      have HNo := hid (fun (b : Nat) (hb : b < w2.heap.size) (W : World) (v : Value) (n : Nat) (xs : List Value) (h : W.ownsRow w2.heap.size 57 8 v n xs) => (fun e => by have := (h.lt _ e).1; omega : v.ownBlock ≠ some b))
      have hw2 : w.heap.size < w2.heap.size := by omega
      have HO3 := hid (ownsRow_setCell_other (ownsRow_setCell_other (ownsRow_setCell_other ho (a := ⟨w.heap.size, 0, none⟩) (HNo.out _ hw2 _ _ _ _ ho) (.int .i64 lit)) (a := ⟨w.heap.size, 1, none⟩) (HNo.out _ hw2 _ _ _ _ ho) (.int .i64 len)) (a := ⟨w.heap.size, 2, none⟩) (HNo.out _ hw2 _ _ _ _ ho) (.int .i64 off))
      have HA3 := hid (((ha.other (a := ⟨w.heap.size, 0, none⟩) (.int .i64 lit) hne).other (a := ⟨w.heap.size, 1, none⟩) (.int .i64 len) hne).other (a := ⟨w.heap.size, 2, none⟩) (.int .i64 off) hne)
      have HD3 := hid (((hd.other (a := ⟨w.heap.size, 0, none⟩) (.int .i64 lit) hne2).other (a := ⟨w.heap.size, 1, none⟩) (.int .i64 len) hne2).other (a := ⟨w.heap.size, 2, none⟩) (.int .i64 off) hne2)
      have HB3 := hid (((hb.set ⟨w.heap.size, 0, none⟩ (.int .i64 lit) (.inl (Nat.le_refl _))).set ⟨w.heap.size, 1, none⟩ (.int .i64 len) (.inl (Nat.le_refl _))).set ⟨w.heap.size, 2, none⟩ (.int .i64 off) (.inl (Nat.le_refl _)))
      have HS3 := hid (show w2.heap.size ≤ (((wr.setCell ⟨w.heap.size, 0, none⟩ (.int .i64 lit)).setCell ⟨w.heap.size, 1, none⟩ (.int .i64 len)).setCell ⟨w.heap.size, 2, none⟩ (.int .i64 off)).heap.size from by simpa using hsz)
      have c0 := hx.cell (k := 0) rfl
      have c1 := hx.cell (k := 1) rfl
      have c2 := hx.cell (k := 2) rfl
      have z0 := hx.frozen 0
      have z1 := hx.frozen 1
      have z2 := hx.frozen 2
      simp only [List.length_cons] at hle ⊢
      have hcI : ((rest.length : Int) + 1) ≤ (c' : Int) := by omega
      have hc1 : rest.length + 1 ≤ c' := hle
      have hlI : (0 : Int) < ((rest.length + 1 : Nat) : Int) := by omega
      have hlI2 : (1 : Int) ≤ ((rest.length + 1 : Nat) : Int) := by omega
      clear hcc hx ha hb hd ho hb0 hL2 hpl HI hle hsz
      go_wp2_with fail
      generalize ((wr.setCell ⟨w.heap.size, 0, none⟩ (.int .i64 lit)).setCell ⟨w.heap.size, 1, none⟩ (.int .i64 len)).setCell ⟨w.heap.size, 2, none⟩ (.int .i64 off) = w3 at *
      clear y0 y1 y2 c0 c1 c2 z0 z1 z2
      refine wp_loop_rounds 2 ?_
      rw [rounds_succ]
      have c0 := HX3.out.cell (k := 0) rfl
      have c1 := HX3.out.cell (k := 1) rfl
      have c2 := HX3.out.cell (k := 2) rfl
      have c3 := HX3.out.cell (k := 3) rfl
      have c4 := HX3.out.cell (k := 4) rfl
      have c5 := HX3.out.cell (k := 5) rfl
      have c6 := HX3.out.cell (k := 6) rfl
      have c7 := HX3.out.cell (k := 7) rfl
      have k0 := HA3.out.cell (k := 0) rfl
      dsimp only at c0 c1 c2 c3 c4 c5 c6 c7
      go_wp2_with fail
      have e0 := fun V : LowOf w3.heap.size w3 => V.cell c0 HX3.out.lt
      have e1 := fun V : LowOf w3.heap.size w3 => V.cell c1 HX3.out.lt
      have e2 := fun V : LowOf w3.heap.size w3 => V.cell c2 HX3.out.lt
      have e3 := fun V : LowOf w3.heap.size w3 => V.cell c3 HX3.out.lt
      have e4 := fun V : LowOf w3.heap.size w3 => V.cell c4 HX3.out.lt
      have e5 := fun V : LowOf w3.heap.size w3 => V.cell c5 HX3.out.lt
      have e6 := fun V : LowOf w3.heap.size w3 => V.cell c6 HX3.out.lt
      have e7 := fun V : LowOf w3.heap.size w3 => V.cell c7 HX3.out.lt
      have HV1 := hid (fun V : LowOf w3.heap.size w3 => Calls.low_of V (Nat.le_refl _) (HM1.out _ V.W HIn.out))
      have HV2 := hid (fun V : LowOf w3.heap.size w3 => Calls.low_of V (Nat.le_refl _) (HMu.out ⟨⟨lit, len, off⟩, pre.length, endOf 0 pre, 131072, 0, 0⟩ V.W))
      dsimp only at HV1 HV2
      clear c0 c1 c2 c3 c4 c5 c6 c7
      clear k0
      refine wp_region_low w3.heap.size (by kernel_rfl) (by kernel_rfl) ?_
      repeat (go_big_quiet_step (first | with_reducible exact HV1.out _ | with_reducible exact HV2.out _))
      refine wpQuiet_nil ?_
      rintro _ ⟨V, rfl⟩
      clear e0 e1 e2 e3 e4 e5 e6 e7
      clear HV1 HV2
      have HX5 := hid (HX3.out.below V.below HX3.out.lt)
      have HA5 := hid (HA3.out.below V.below HA3.out.lt)
      have HD5 := hid (HD3.out.below V.below HD3.out.lt)
      have HO5 := hid (own_low HO3.out V.below)
      have HS5 := hid (Nat.le_trans HS3.out V.below.size)
      have HB5 := hid (HB3.out.trans ((KeepLow.of_below V.below).mono (Nat.le_trans hB2 HS3.out)))
      generalize V.W = w5 at *
      clear V
      go_wp2_with fail
      rw [rounds_succ]
      have c0 := HX5.out.cell (k := 0) rfl
      have c1 := HX5.out.cell (k := 1) rfl
      have c2 := HX5.out.cell (k := 2) rfl
      have c3 := HX5.out.cell (k := 3) rfl
      have c4 := HX5.out.cell (k := 4) rfl
      have c5 := HX5.out.cell (k := 5) rfl
      have c6 := HX5.out.cell (k := 6) rfl
      have c7 := HX5.out.cell (k := 7) rfl
      dsimp only at c0 c1 c2 c3 c4 c5 c6 c7
      go_wp2_with fail
      refine (HF.out ⟨⟨lit, len, off⟩, pre.length, endOf 0 pre, 131072, 0, 0⟩ cb w2.heap.size pre.length v _ _ HD5.out HO5.out (by have := HPl.out; omega) HS5.out (by omega)).mono ?_
      rintro e w6 ⟨rfl, ⟨v6, hd6, ho6⟩, hk6⟩
      clear c0 c1 c2 c3 c4 c5 c6 c7
      have HX6 := hid (hk6.blk HX5.out hw2 (fun e => hne2 (by cases e; rfl)))
      have HA6 := hid (hk6.blk HA5.out (by omega) (fun e => by cases e; omega))
      have HD6 := hid hd6
      have HO6 := hid ho6
      have HS6 := hid (Nat.le_trans HS5.out hk6.size)
      have HB6 := hid (HB5.out.trans (hk6.mono hB2))
      clear hd6 ho6 hk6
      have c0 := HX6.out.cell (k := 0) rfl
      have c1 := HX6.out.cell (k := 1) rfl
      have c2 := HX6.out.cell (k := 2) rfl
      have c3 := HX6.out.cell (k := 3) rfl
      have c4 := HX6.out.cell (k := 4) rfl
      have c5 := HX6.out.cell (k := 5) rfl
      have c6 := HX6.out.cell (k := 6) rfl
      have c7 := HX6.out.cell (k := 7) rfl
      dsimp only at c0 c1 c2 c3 c4 c5 c6 c7
      go_wp2_with fail
      refine (HE.out _ _ HIn.out).mono ?_
      rintro e w7 ⟨rfl, hb7⟩
      dsimp only
      clear c0 c1 c2 c3 c4 c5 c6 c7
      have HX7 := hid (HX6.out.below hb7 HX6.out.lt)
      have HA7 := hid (HA6.out.below hb7 HA6.out.lt)
      have HD7 := hid (HD6.out.below hb7 HD6.out.lt)
      have HO7 := hid (own_low HO6.out hb7)
      have HS7 := hid (Nat.le_trans HS6.out hb7.size)
      have HB7 := hid (HB6.out.trans ((KeepLow.of_below hb7).mono (Nat.le_trans hB2 HS6.out)))
      have c0 := HX7.out.cell (k := 0) rfl
      have c1 := HX7.out.cell (k := 1) rfl
      have c2 := HX7.out.cell (k := 2) rfl
      have c3 := HX7.out.cell (k := 3) rfl
      have c4 := HX7.out.cell (k := 4) rfl
      have c5 := HX7.out.cell (k := 5) rfl
      have c6 := HX7.out.cell (k := 6) rfl
      have c7 := HX7.out.cell (k := 7) rfl
      dsimp only at c0 c1 c2 c3 c4 c5 c6 c7
      clear hb7
      have z3 := HX7.out.frozen 3
      have z4 := HX7.out.frozen 4
      have HX9 := hid ((HX7.out.set 4 (.int .i64 (endOf 0 pre + lit + len))).set 3 (.int .i64 ((pre.length : Int) + 1)))
      have HA9 := hid ((HA7.out.other (a := ⟨w.heap.size, 4, none⟩) (.int .i64 (endOf 0 pre + lit + len)) hne).other (a := ⟨w.heap.size, 3, none⟩) (.int .i64 ((pre.length : Int) + 1)) hne)
      have HD9 := hid ((HD7.out.other (a := ⟨w.heap.size, 4, none⟩) (.int .i64 (endOf 0 pre + lit + len)) hne2).other (a := ⟨w.heap.size, 3, none⟩) (.int .i64 ((pre.length : Int) + 1)) hne2)
      have HO9 := hid (ownsRow_setCell_other (ownsRow_setCell_other HO7.out (a := ⟨w.heap.size, 4, none⟩) (HNo.out _ hw2 _ _ _ _ HO7.out) (.int .i64 (endOf 0 pre + lit + len))) (a := ⟨w.heap.size, 3, none⟩) (HNo.out _ hw2 _ _ _ _ HO7.out) (.int .i64 ((pre.length : Int) + 1)))
      have HS9 := hid (show w2.heap.size ≤ ((w7.setCell ⟨w.heap.size, 4, none⟩ (.int .i64 (endOf 0 pre + lit + len))).setCell ⟨w.heap.size, 3, none⟩ (.int .i64 ((pre.length : Int) + 1))).heap.size from by simpa using HS7.out)
      have HB9 := hid ((HB7.out.set ⟨w.heap.size, 4, none⟩ (.int .i64 (endOf 0 pre + lit + len)) (.inl (Nat.le_refl _))).set ⟨w.heap.size, 3, none⟩ (.int .i64 ((pre.length : Int) + 1)) (.inl (Nat.le_refl _)))
      have hplI : (pre.length : Int) + 1 ≤ 1000000 := by have := HPl.out; omega
      have HFin := hid (show Blk ((w7.setCell ⟨w.heap.size, 4, none⟩ (.int .i64 (endOf 0 pre + lit + len))).setCell ⟨w.heap.size, 3, none⟩ (.int .i64 ((pre.length : Int) + 1))) w.heap.size (pstc ⟨⟨lit, len, off⟩, ((pre ++ [(⟨lit, len, off⟩ : Sq)]).length : Nat), endOf 0 (pre ++ [(⟨lit, len, off⟩ : Sq)]), 131072, 0, 0⟩) 57 ∧ ((w7.setCell ⟨w.heap.size, 4, none⟩ (.int .i64 (endOf 0 pre + lit + len))).setCell ⟨w.heap.size, 3, none⟩ (.int .i64 ((pre.length : Int) + 1))).ownsRow w2.heap.size 57 8 v6 (pre ++ [(⟨lit, len, off⟩ : Sq)]).length ((psts 131072 0 0 (pre ++ [(⟨lit, len, off⟩ : Sq)])).flatMap pstc) from by
        rw [endOf_snoc1, List.length_append, psts_snoc, List.flatMap_append]
        refine ⟨HX9.out, ?_⟩
        rw [List.flatMap_cons, List.flatMap_nil, List.append_nil]
        exact HO9.out)
      by_cases h1 : rest.length = 0
      · have hr : rest = [] := List.eq_nil_of_length_eq_zero h1
        subst hr
        go_wp2
        go_roundg 0
        case measure => have := HGl.out; simp only [List.length_cons] at this; omega
        case rel => exact ⟨pre ++ [(⟨lit, len, off⟩ : Sq)], [], some ⟨bl, of', none⟩, 0, ⟨lit, len, off⟩, v6, hid ⟨HL2.out, (fun j u hu => by simp at hu), Nat.le_refl _⟩, rfl, rfl, HFin.out.1, HA9.out, HD9.out, HFin.out.2, HS9.out, HB9.out⟩
      · go_wp2
        go_roundg rest.length
        case measure => have := HGl.out; simp only [List.length_cons] at this; omega
        case rel => exact ⟨pre ++ [(⟨lit, len, off⟩ : Sq)], rest, some ⟨bl, of' + 3, none⟩, rest.length, ⟨lit, len, off⟩, v6, hid ⟨HL2.out, HC2.out, Nat.le_refl _⟩, rfl, rfl, HFin.out.1, HA9.out, HD9.out, HFin.out.2, HS9.out, HB9.out⟩
end Go.Proofs.YtlgablepckmogaaGreat
namespace Go.Port
open Go.RowKit
theorem take_pre_eq {α : Type} (pre rest : List α) : (pre ++ rest).take pre.length = pre := by simp
theorem VerOk.plIn {bs : List UInt8} {A : Nat} {W : Int} {l : List Sq} (h : VerOk bs A W 0 l) (h1 : (bs.length : Int) - A ≤ 131072) (h2 : (A : Int) ≤ 1000000) (hW : W ≤ 134217728) : PlIn l ((bs.length : Int) - A) A W true := by
  intro pre s rest e
  have hs := h.drop l 0 pre.length s (by rw [e]; simp)
  rw [e, take_pre_eq] at hs
  exact ⟨⟨hs.p0, hs.lit, hs.len, hs.fin, h1⟩, fun _ => ⟨hs.off, hs.win, hs.far, hW, by simp only; omega, h2⟩⟩
theorem VerOk.plMax {bs : List UInt8} {A : Nat} {W : Int} {l : List Sq} (h : VerOk bs A W 0 l) (h1 : (bs.length : Int) - A ≤ 131072) : PlIn l 131072 0 0 false := by
  intro pre s rest e
  have hs := h.drop l 0 pre.length s (by rw [e]; simp)
  rw [e, take_pre_eq] at hs
  exact ⟨⟨hs.p0, hs.lit, hs.len, by have := hs.fin; simp only; omega, Int.le_refl _⟩, fun h => by cases h⟩
end Go.Port
namespace Go.Proofs.YtlgablepckmogaaGreat
open Go.RowKit Go.Port
theorem piface_nil (w : World) : (binOp BinOp.eql 20 .nilIface .nilIface).run Tryz.prog w = .ok (.bool true) w := by kernel_rfl
set_option maxRecDepth 100000 in
set_option maxHeartbeats 400000 in
theorem pcaught_idle (p q : Addr) (w : World) :
    CallsD Tryz.prog 45 #[.pointer (some p), .pointer (some q)] .returning w fun e u' w' => e = .returned (.tuple #[]) ∧ u' = .returning ∧ w' = w := by
  have hnil := piface_nil
  refine callsD_of_wpS Tryz.func45 rfl fun c₀ cs hu => ?_
  simp only [Tryz.ntmps45, List.size_toArray, List.length_cons, List.length_nil, Nat.reduceAdd, Nat.reduceSub, Array.replicate_succ,
     Array.replicate_zero, List.push_toArray, List.append_toArray, List.nil_append, List.cons_append]
  apply wpS_seq
  apply wpS_region
  generalize hQ : (Exit.thenS _ _ : Exit → Act → List Frame → World → Prop) = Q
  simp [wpOpsS, go_sem, recoverD, hu]
  subst hQ
  dsimp only [Exit.thenS]
  refine wpS_of_wp ?_
  go_wp2
  exact ⟨rfl, .returning, by cases c₀; simp_all, .tuple #[], results_none rfl _ _ _, rfl, rfl, rfl⟩
set_option maxRecDepth 100000 in
set_option maxHeartbeats 4000000 in
theorem pfirst_ok (l : List Sq) (a : Option Addr) (c : Nat) (size hav win : Int) (w : World) (hl : l.length ≤ 1000000) (hlc : l.length ≤ c) (hc : CellsAt w a (l.flatMap sqc)) (hv : PlIn l size hav win true) (h1 : 0 ≤ size) (h2 : size ≤ 131072) (h3 : 0 ≤ hav) (h4 : 1 ≤ win) (h5 : win ≤ 134217728) :
    Calls Tryz.prog 44 #[.slice a l.length c, .int .i64 size, .int .i64 hav, .int .i64 win] w (RetV w (.tuple #[.int .i64 0, .int .i64 0])) := by
  have hb0 : Below w.heap.size w ((w.alloc (.cells #[.int .i64 0] 3)).alloc (.cells #[.int .i64 0] 25)) := (below_new w _).alloc (by simp) _
  have hB1 : Blk ((w.alloc (.cells #[.int .i64 0] 3)).alloc (.cells #[.int .i64 0] 25)) w.heap.size [.int .i64 0] 3 := (Blk.new w [.int .i64 0] 3).alloc _
  have hB2 : Blk ((w.alloc (.cells #[.int .i64 0] 3)).alloc (.cells #[.int .i64 0] 25)) (w.heap.size + 1) [.int .i64 0] 25 := by
    have := Blk.new (w.alloc (.cells #[.int .i64 0] 3)) [.int .i64 0] 25
    rwa [show (w.alloc (.cells #[.int .i64 0] 3)).heap.size = w.heap.size + 1 from by simp] at this
  have HG := hid (pgoneF_any l a c size hav win _ hl hlc (hc.low hb0) hv)
  have HB0 := hid hb0
  have HB1 := hid hB1
  have HB2 := hid hB2
  unfold pstv Sq.zero at HG
  dsimp only at HG
  have m1 : 0 ≤ min size hav := by omega
  have m2 : ¬ (min size hav < 0) := by omega
  have n2 : ¬ 131072 < size := by omega
  have n4 : ¬ win < 1 := by omega
  have n5 : ¬ 134217728 < win := by omega
  clear hc hv hl hb0 hB1 hB2
  go_enter_defers Tryz.func44, Tryz.ntmps44
  go_wp2_with fail
  refine HG.out.mono ?_
  rintro e w1 ⟨rfl, hb1⟩
  have HC1 := hid (HB1.out.below hb1 HB1.out.lt)
  have HC2 := hid (HB2.out.below hb1 HB2.out.lt)
  have HC0 := hid (HB0.out.trans (hb1.mono HB0.out.size))
  clear hb1 HB0 HB1 HB2 HG
  have d1 := HC1.out.cell (k := 0) rfl
  have d2 := HC2.out.cell (k := 0) rfl
  have z1 := HC1.out.frozen 0
  have z2 := HC2.out.frozen 0
  go_wp2
  have hf1 := (HC1.out.set 0 (.int .i64 0)).other (a := ⟨w.heap.size + 1, 0, none⟩) (.int .i64 0) (by simp)
  have hf2 := (HC2.out.other (a := ⟨w.heap.size, 0, none⟩) (.int .i64 0) (by simp)).set 0 (.int .i64 0)
  have hf0 := (HC0.out.setCell (p := ⟨w.heap.size, 0, none⟩) (Nat.le_refl _) (.int .i64 0)).setCell (p := ⟨w.heap.size + 1, 0, none⟩) (Nat.le_succ _) (.int .i64 0)
  generalize (w1.setCell ⟨w.heap.size, 0, none⟩ (.int .i64 0)).setCell ⟨w.heap.size + 1, 0, none⟩ (.int .i64 0) = w9 at *
  refine leaves_cons (f := 45) (args := #[.pointer (some ⟨w.heap.size, 0, none⟩), .pointer (some ⟨w.heap.size + 1, 0, none⟩)]) (by simp) (by simp [go_sem]) ?_
  refine (pcaught_idle _ _ _).mono ?_
  rintro e u' w'' ⟨rfl, rfl, rfl⟩
  have q1 := hf1.cell (k := 0) rfl
  have q2 := hf2.cell (k := 0) rfl
  refine ⟨_, ?_, rfl, hf0⟩
  simp [results, Tryz.results44, go_sem, q1, q2]
set_option maxRecDepth 100000 in
theorem pcheck_ok (l : List Sq) (a : Option Addr) (c : Nat) (size hav win : Int) (w : World) (hl : l.length ≤ 1000000) (hlc : l.length ≤ c) (hc : CellsAt w a (l.flatMap sqc)) (hv : PlIn l size hav win true) (h1 : 0 ≤ size) (h2 : size ≤ 131072) (h3 : 0 ≤ hav) (h4 : 1 ≤ win) (h5 : win ≤ 134217728) :
    Calls Tryz.prog 18 #[.slice a l.length c, .int .i64 size, .int .i64 hav, .int .i64 win] w (RetV w (.int .i64 0)) := by
  have HF := hid (pfirst_ok l a c size hav win w hl hlc hc hv h1 h2 h3 h4 h5)
  clear hc hv hl h1 h2 h3 h4 h5
  go_enter Tryz.func18, Tryz.ntmps18
  go_wp2_with fail
  refine HF.out.mono ?_
  rintro e w1 ⟨rfl, hb1⟩
  go_wp2
  go_ret
  exact ⟨rfl, hb1⟩
set_option maxRecDepth 100000 in
set_option maxHeartbeats 4000000 in
theorem psteps_ok (l : List Sq) (a : Option Addr) (c : Nat) (w : World) (hl : l.length ≤ 900000) (hlc : l.length ≤ c) (hc : CellsAt w a (l.flatMap sqc)) (hv : PlIn l 131072 0 0 false) :
    Calls Tryz.prog 19 #[.slice a l.length c] w fun e w' => ∃ v, e = .returned (.tuple #[v, .int .i64 (endOf 0 l), .int .i64 0]) ∧ w'.ownsRow w.heap.size 57 8 v l.length ((psts 131072 0 0 l).flatMap pstc) ∧ Below w.heap.size w w' := by
  have hmf : ∀ (fn : Fn) (first cap : Array Value) (w : World), (Instr.makeFunc fn first cap).run Tryz.prog w = .ok (.func fn first cap) w := fun _ _ _ _ => rfl
  obtain ⟨w3, hw3⟩ : ∃ w3, w3 = ((w.alloc (.cells #[.slice none 0 0] 53)).alloc (.cells #[.int .i64 0] 25)).alloc (.cells #[.int .i64 0] 3) := ⟨_, rfl⟩
  have hs1 : (w.alloc (.cells #[.slice none 0 0] 53)).heap.size = w.heap.size + 1 := by simp
  have hs2 : ((w.alloc (.cells #[.slice none 0 0] 53)).alloc (.cells #[.int .i64 0] 25)).heap.size = w.heap.size + 2 := by simp
  have hs3 : w3.heap.size = w.heap.size + 3 := by rw [hw3]; simp
  have hb0 : Below w.heap.size w w3 := by rw [hw3]; exact ((below_new w _).alloc (by simp) _).alloc (by simp; omega) _
  have hA : Blk w3 w.heap.size [.slice none 0 0] 53 := by rw [hw3]; exact ((Blk.new w [.slice none 0 0] 53).alloc _).alloc _
  have hE : Blk w3 (w.heap.size + 1) [.int .i64 0] 25 := by
    rw [hw3]
    have := Blk.new (w.alloc (.cells #[.slice none 0 0] 53)) [.int .i64 0] 25
    rw [hs1] at this
    exact this.alloc _
  have HG := hid (pgoneS_any l a c w.heap.size w w3 hl hlc hb0 (Nat.le_refl _) hA hc hv)
  have HB := hid hb0
  have HE := hid hE
  have HS3 := hid hs3
  have HW3 := hid hw3
  unfold pstv Sq.zero at HG
  dsimp only at HG
  clear hc hv hl hb0 hA hE hs1 hs2 hs3 hw3
  go_enter_defers Tryz.func19, Tryz.ntmps19
  go_wp2_with fail
  rw [← HW3.out]
  refine HG.out.mono ?_
  rintro e w4 ⟨rfl, ⟨v, hb, ho⟩, hk⟩
  have HE4 := hid (hk.blk HE.out (by have := HS3.out; omega) (fun e => by simp only [Option.some.injEq] at e; omega))
  have HB4 := hid (HB.out.trans (hk.below HB.out.size (Nat.le_refl _)))
  have hO := own_le ho HB.out.size
  obtain ⟨av, cv, rfl⟩ := own_slice ho
  have hz : (Value.slice av l.length cv).ownBlock ≠ some w.heap.size := fun e => by have h1 := (ho.lt _ e).1; have h2 := HS3.out; omega
  have hz1 : (Value.slice av l.length cv).ownBlock ≠ some (w.heap.size + 1) := fun e => by have h1 := (ho.lt _ e).1; have h2 := HS3.out; omega
  have HO := hid (ownsRow_setCell_other (ownsRow_setCell_other hO (a := ⟨w.heap.size, 0, none⟩) hz (.slice av l.length cv)) (a := ⟨w.heap.size + 1, 0, none⟩) hz1 (.int .i64 0))
  have HF1 := hid ((hb.set 0 (.slice av l.length cv)).other (a := ⟨w.heap.size + 1, 0, none⟩) (.int .i64 0) (by simp))
  have HF2 := hid ((HE4.out.other (a := ⟨w.heap.size, 0, none⟩) (.slice av l.length cv) (by simp)).set 0 (.int .i64 0))
  have HF0 := hid ((HB4.out.setCell (p := ⟨w.heap.size, 0, none⟩) (Nat.le_refl _) (.slice av l.length cv)).setCell (p := ⟨w.heap.size + 1, 0, none⟩) (Nat.le_succ _) (.int .i64 0))
  have d1 := hb.cell (k := 0) rfl
  have d2 := HE4.out.cell (k := 0) rfl
  have z1 := hb.frozen 0
  have z2 := HE4.out.frozen 0
  clear hb ho hk hO hz hz1 HB HE HG
  go_wp2
  generalize (w4.setCell ⟨w.heap.size, 0, none⟩ (.slice av l.length cv)).setCell ⟨w.heap.size + 1, 0, none⟩ (.int .i64 0) = w9 at *
  refine leaves_cons (f := 45) (args := #[.pointer (some ⟨w.heap.size + 2, 0, none⟩), .pointer (some ⟨w.heap.size + 1, 0, none⟩)]) (by simp) (by simp [go_sem]) ?_
  refine (pcaught_idle _ _ _).mono ?_
  rintro e u' w'' ⟨rfl, rfl, rfl⟩
  have q1 := HF1.out.cell (k := 0) rfl
  have q2 := HF2.out.cell (k := 0) rfl
  refine ⟨_, ?_, _, rfl, HO.out, HF0.out⟩
  simp [results, Tryz.results19, go_sem, q1, q2]
set_option maxRecDepth 100000 in
set_option maxHeartbeats 4000000 in
theorem bequal_any (a1 a2 : Option Addr) (c1 c2 : Nat) (bs : List UInt8) (w : World) (hl : bs.length ≤ 1000000) (h1 : CellsAt w a1 (bs.map bv)) (h2 : CellsAt w a2 (bs.map bv)) :
    Calls Tryz.prog 21 #[.slice a1 bs.length c1, .slice a2 bs.length c2] w fun e w' => e = .returned (.bool true) ∧ ∃ m, w' = w.drewN m := by
  have HC1 := hid h1
  have HC2 := hid h2
  clear h1 h2
  go_enter Tryz.func21, Tryz.ntmps21
  go_wp2
  go_loopw [13] (fun i wr => ∃ k : Nat, k ≤ bs.length ∧ i = .int .i64 k ∧ ∃ m, wr = w.drewN m) (fun i _ => bs.length - (intOf i).toNat)
  case atStart => exact ⟨0, Nat.zero_le _, rfl, 0, rfl⟩
  case round =>
    obtain ⟨k, hk, rfl, m, rfl⟩ := hrel
    by_cases hlt : k < bs.length
    · obtain ⟨b1, o1, rfl, _, d1⟩ := HC1.out k (bv bs[k]) (by simp [hlt])
      obtain ⟨b2, o2, rfl, _, d2⟩ := HC2.out k (bv bs[k]) (by simp [hlt])
      unfold bv at d1 d2
      generalize (bs[k].toNat : Int) = x at *
      have hkI : (k : Int) < (bs.length : Int) := by omega
      go_wp2
      go_quiet (fail)
      go_wp2
      go_roundw
      case rel => exact ⟨k + 1, by omega, by go_num, _, rfl⟩
      case measure => simp [intOf]; omega
    · obtain rfl : k = bs.length := by omega
      go_wp2
      go_ret
      exact ⟨rfl, _, rfl⟩
end Go.Proofs.YtlgablepckmogaaGreat
namespace Go.Port
open Go.RowKit
theorem CellsAt.sub {w : World} {b o : Nat} {bs : List UInt8} (h : CellsAt w (some ⟨b, o, none⟩) (bs.map bv)) (F n : Nat) : CellsAt w (some ⟨b, o + F, none⟩) (((bs.drop F).take n).map bv) := by
  intro j u hu
  have h2 : (bs.map bv)[F + j]? = some u := by
    rw [List.getElem?_map, List.getElem?_take] at hu
    rw [List.getElem?_map]
    split at hu
    · rw [List.getElem?_drop] at hu; exact hu
    · cases hu
  obtain ⟨b2, o2, e1, e2, e3⟩ := h (F + j) u h2
  cases e1
  exact ⟨b, o + F, rfl, e2, by rw [Nat.add_assoc]; exact e3⟩
theorem seg_same {bs : List UInt8} {F G n : Nat} (h : ∀ k, k < n → bs[F + k]? = bs[G + k]?) : (bs.drop F).take n = (bs.drop G).take n := by
  apply List.ext_getElem?
  intro j
  rw [List.getElem?_take, List.getElem?_take]
  split
  · rename_i hj
    rw [List.getElem?_drop, List.getElem?_drop]
    exact h j hj
  · rfl
end Go.Port
namespace Go.Proofs.YtlgablepckmogaaGreat
open Go.RowKit Go.Port
set_option maxRecDepth 100000 in
set_option maxHeartbeats 8000000 in
theorem pverify_ok (l : List Sq) (al a1 a2 : Option Addr) (cl c1 c2 : Nat) (A D : List UInt8) (W : Int) (w : World) (hl : l.length ≤ 900000) (hlc : l.length ≤ cl) (hc : CellsAt w al (l.flatMap sqc))
    (hA : A.length ≤ 800000) (hD : (D.length : Int) ≤ 131072) (h1 : A.length ≤ c1) (h2 : D.length ≤ c2) (h3 : a1 = none → c1 = 0) (h4 : a2 = none → c2 = 0) (hc1 : CellsAt w a1 (A.map bv)) (hc2 : CellsAt w a2 (D.map bv)) (hW : 1 ≤ W) (hW2 : W ≤ 134217728) (hv : VerOk (A ++ D) A.length W 0 l) :
    Calls Tryz.prog 7 #[.slice al l.length cl, .slice a1 A.length c1, .slice a2 D.length c2, .int .i64 W] w (RetV w (.int .i64 0)) := by
  obtain ⟨bs, hbs⟩ : ∃ bs, A ++ D = bs := ⟨_, rfl⟩
  have hbl : bs.length = A.length + D.length := by rw [← hbs, List.length_append]
  rw [hbs] at hv
  have hsz : (bs.length : Int) - (A.length : Int) = (D.length : Int) := by omega
  have hp1 := hv.plIn (by omega) (by omega) hW2
  have hp2 := hv.plMax (by omega)
  rw [hsz] at hp1
  have HCk := hid (pcheck_ok l al cl (D.length : Int) (A.length : Int) W w (by omega) hlc hc hp1 (by omega) hD (by omega) hW hW2)
  have HCo := hid (fun (p : Nat) (W' : World) (hW' : Below w.heap.size w W') hp => xconcat_any p a1 a2 c1 c2 A D W' (by omega) (by omega) h1 h2 h3 h4 hp (hc1.low hW') (hc2.low hW'))
  have HSt := hid (fun (W' : World) (hW' : Below w.heap.size w W') => psteps_ok l al cl W' hl hlc (hc.low hW') hp2)
  have HPl := hid hp2
  have HV := hid hv
  have HM := hid pmatch_any
  have HEq := hid bequal_any
  rw [hbs] at HCo
  have HLn := hid hbl
  have HL := hid hl
  have hbI : (bs.length : Int) ≤ 1000000 := by omega
  have hlI : (l.length : Int) ≤ 900000 := by omega
  unfold pstv at HM
  clear hl hc hA hD hc1 hc2 hW hW2 hv hbl hsz hp1 hp2 hbs
  go_enter Tryz.func7, Tryz.ntmps7
  go_wp2_with fail
  refine HCk.out.mono ?_
  rintro e w1 ⟨rfl, hb1⟩
  have hbn := below_new w1 (.cells #[.slice a1 A.length c1, .slice a2 D.length c2] 22)
  have HB2 := hid (hb1.trans (hbn.mono hb1.size))
  have HCc := hid (HCo.out w1.heap.size _ HB2.out (Blk.new w1 _ _))
  clear hb1 hbn HCk HCo
  go_wp2_with fail
  refine HCc.out.mono ?_
  rintro e w3 ⟨v, rfl, hown, hb3⟩
  obtain ⟨va, ca, rfl⟩ := own_slice hown
  have HB3 := hid (HB2.out.trans (hb3.mono HB2.out.size))
  have HCl := hid ((Sl.of_owns hown).cells' rfl)
  have HCp := hid ((Sl.of_owns hown).cap rfl)
  have HSc := hid (HSt.out w3 HB3.out)
  clear hown hb3 HB2 HCc HSt
  go_wp2_with fail
  refine HSc.out.mono ?_
  rintro e w4 ⟨vs, rfl, hown, hb4⟩
  obtain ⟨av, cv, rfl⟩ := own_slice hown
  have HB4 := hid (HB3.out.trans (hb4.mono HB3.out.size))
  have HC4 := hid (HCl.out.low hb4)
  have HS4 := hid ((Sl.of_owns hown).cells' rfl)
  clear hown hb4 HB3 HCl HSc
  go_wp2_with fail
  go_loopw [39] (fun i wr => ∃ k : Nat, k ≤ l.length ∧ i = .int .i64 (k : Int) ∧ Below w4.heap.size w4 wr) (fun i _ => l.length - (intOf i).toNat)
  case atStart => exact ⟨0, Nat.zero_le _, rfl, Below.refl _ _⟩
  case round =>
    obtain ⟨k, hk, rfl, hb⟩ := hrel
    by_cases hlt : k < l.length
    · obtain ⟨s, hs⟩ : ∃ s, l[k]? = some s := ⟨l[k], by simp [hlt]⟩
      have hso := HV.out.drop l 0 k s hs
      have hin := (HPl.out (l.take k) s (l.drop (k + 1)) (by obtain ⟨h1, h2⟩ := List.getElem?_eq_some_iff.1 hs; rw [← h2, ← List.drop_eq_getElem_cons h1, List.take_append_drop])).1
      have hx : (psts 131072 0 0 l)[k]? = some ⟨s, (k : Int), endOf 0 (l.take k), 131072, 0, 0⟩ := by
        have := pstsGo_get 131072 0 0 l 0 0 k s hs
        rw [Int.zero_add] at this
        exact this
      rw [List.length_take, Nat.min_eq_left hk] at hin
      obtain ⟨lit, len, off⟩ := s
      obtain ⟨q0, q1, q2, q3, q4, q5, q6, q7⟩ := hso
      dsimp only at q1 q2 q3 q4 q5 q6 q7
      obtain ⟨P, hP⟩ : ∃ P : Nat, endOf 0 (l.take k) = (P : Int) := ⟨(endOf 0 (l.take k)).toNat, by omega⟩
      obtain ⟨Li, rfl⟩ : ∃ n : Nat, lit = (n : Int) := ⟨lit.toNat, by omega⟩
      obtain ⟨Ln, rfl⟩ : ∃ n : Nat, len = (n : Int) := ⟨len.toNat, by omega⟩
      obtain ⟨Of, rfl⟩ : ∃ n : Nat, off = (n : Int) := ⟨off.toNat, by omega⟩
      rw [hP] at hx hin q0 q3 q6 q7
      obtain ⟨F, hF⟩ : ∃ F : Nat, A.length + (P + Li) = F := ⟨_, rfl⟩
      obtain ⟨G, hG⟩ : ∃ G : Nat, F - Of = G := ⟨_, rfl⟩
      have hsame : (bs.drop F).take Ln = (bs.drop G).take Ln := seg_same fun j hj => by
        have := q7 j (by omega)
        rw [show ((A.length : Int) + ((P : Int) + (Li : Int))).toNat = F by omega, show ((A.length : Int) + ((P : Int) + (Li : Int)) - (Of : Int)).toNat = G by omega] at this
        exact this
      have hxl : ((bs.drop F).take Ln).length = Ln := by rw [List.length_take, List.length_drop]; omega
      have hbs0 : 0 < bs.length := by omega
      obtain ⟨vb, vo, rfl, hu1, hu2⟩ := HC4.out 0 (bv (bs[0]'hbs0)) (by simp [hbs0])
      have HEc := hid (fun (W' : World) (hW' : Below w4.heap.size w4 W') (ca1 ca2 : Nat) => HEq.out (some ⟨vb, vo + F, none⟩) (some ⟨vb, vo + G, none⟩) ca1 ca2 ((bs.drop F).take Ln) W' (by omega) ((HC4.out.low hW').sub F Ln) (by rw [hsame]; exact (HC4.out.low hW').sub G Ln))
      rw [hxl] at HEc
      obtain ⟨b, o, rfl, _, y0⟩ := HS4.out.low hb (k * 8 + 0) _ (by rw [pst_getc hx 0 (by omega)]; rfl)
      obtain ⟨_, _, e, _, y1⟩ := HS4.out.low hb (k * 8 + 1) _ (by rw [pst_getc hx 1 (by omega)]; rfl)
      cases e
      obtain ⟨_, _, e, _, y2⟩ := HS4.out.low hb (k * 8 + 2) _ (by rw [pst_getc hx 2 (by omega)]; rfl)
      cases e
      obtain ⟨_, _, e, _, y3⟩ := HS4.out.low hb (k * 8 + 3) _ (by rw [pst_getc hx 3 (by omega)]; rfl)
      cases e
      obtain ⟨_, _, e, _, y4⟩ := HS4.out.low hb (k * 8 + 4) _ (by rw [pst_getc hx 4 (by omega)]; rfl)
      cases e
      obtain ⟨_, _, e, _, y5⟩ := HS4.out.low hb (k * 8 + 5) _ (by rw [pst_getc hx 5 (by omega)]; rfl)
      cases e
      obtain ⟨_, _, e, _, y6⟩ := HS4.out.low hb (k * 8 + 6) _ (by rw [pst_getc hx 6 (by omega)]; rfl)
      cases e
      obtain ⟨_, _, e, _, y7⟩ := HS4.out.low hb (k * 8 + 7) _ (by rw [pst_getc hx 7 (by omega)]; rfl)
      cases e
      rw [Nat.add_zero] at y0
      rw [← Nat.add_assoc] at y1 y2 y3 y4 y5 y6 y7
      dsimp only at y0 y1 y2 y3 y4 y5 y6 y7
      have HMc := hid (fun W' => HM.out _ W' hin)
      dsimp only at HMc
      have hca := HCp.out.1
      have hwf : IntKind.i64.wrap ((A.length : Int) + ((P : Int) + (Li : Int))) = (F : Int) := by rw [IntKind.wrap_i64]; omega
      have hwa : IntKind.i64.wrap ((F : Int) + (Ln : Int)) = ((F + Ln : Nat) : Int) := by rw [IntKind.wrap_i64]; omega
      have hwb : IntKind.i64.wrap ((F : Int) - (Of : Int)) = (G : Int) := by rw [IntKind.wrap_i64]; omega
      have hwc : IntKind.i64.wrap ((G : Int) + (Ln : Int)) = ((G + Ln : Nat) : Int) := by rw [IntKind.wrap_i64]; omega
      have hfl : F + Ln ≤ ca := by omega
      have hgl : G + Ln ≤ ca := by omega
      have hn1 : ¬ ca = F := by omega
      have hn2 : ¬ ca = G := by omega
      have HHW := hid (And.intro hwa (And.intro hwb (And.intro hwc (And.intro hfl (And.intro hgl (And.intro hn1 hn2))))))
      have HWf := hid hwf
      have HB := hid hb
      have HK := hid hlt
      have hkI : (k : Int) < (l.length : Int) := by omega
      have HB5 := hid (hb.alloc hb.size (.cells #[.int .i64 (Li : Int), .int .i64 (Ln : Int), .int .i64 (Of : Int), .int .i64 (k : Int), .int .i64 (P : Int), .int .i64 131072, .int .i64 0, .int .i64 0] 57))
      have HX5 := hid (Blk.new wr [.int .i64 (Li : Int), .int .i64 (Ln : Int), .int .i64 (Of : Int), .int .i64 (k : Int), .int .i64 (P : Int), .int .i64 131072, .int .i64 0, .int .i64 0] 57)
      clear hu1 hu2 hbs0 hwa hwb hwc hwf hfl hgl hn1 hn2 hca hb hx hin q0 q1 q2 q3 q4 q5 q6 q7 hP hF hG hsame hxl hs hk hlt
      go_upto_region 9 with fail
      generalize wr.alloc (.cells #[.int .i64 (Li : Int), .int .i64 (Ln : Int), .int .i64 (Of : Int), .int .i64 (k : Int), .int .i64 (P : Int), .int .i64 131072, .int .i64 0, .int .i64 0] 57) = w5 at *
      clear y0 y1 y2 y3 y4 y5 y6 y7
      go_cut [16] (fun t wx => t = .int .i64 (F : Int) ∧ Below w5.heap.size w5 wx)
      case first =>
        have c0 := HX5.out.cell (k := 0) rfl
        have c1 := HX5.out.cell (k := 1) rfl
        have c2 := HX5.out.cell (k := 2) rfl
        have c3 := HX5.out.cell (k := 3) rfl
        have c4 := HX5.out.cell (k := 4) rfl
        have c5 := HX5.out.cell (k := 5) rfl
        have c6 := HX5.out.cell (k := 6) rfl
        have c7 := HX5.out.cell (k := 7) rfl
        go_wp2_with fail
        refine (HMc.out _).mono ?_
        rintro e w6 ⟨rfl, hb6⟩
        dsimp only
        have hwf := HWf.out
        go_wp2
        go_meet
        exact ⟨rfl, hb6⟩
      case rest =>
        obtain ⟨rfl, hb6⟩ := hcut
        have HX6 := hid (HX5.out.below hb6 HX5.out.lt)
        have HB6 := hid (HB5.out.trans (hb6.mono HB5.out.size))
        obtain ⟨hwa, hwb, hwc, hfl, hgl, hn1, hn2⟩ := HHW.out
        clear hb6
        have c1 := HX6.out.cell (k := 1) rfl
        have c2 := HX6.out.cell (k := 2) rfl
        go_wp2_with fail
        go_quiet ((go_at_call 21; first | exact quiet_left3 (HEc.out _ (below_drewN HB6.out _) _ _) | exact quiet_left0 (HEc.out _ (below_drewN HB6.out _) _ _)))
        have HB7 := hid (below_drewN HB6.out nq)
        clear hwa hwb hwc hfl hgl hn1 hn2 c1 c2
        go_wp2
        go_roundw
        case rel => exact ⟨k + 1, HK.out, by go_num, HB7.out⟩
        case measure => have := HK.out; simp [intOf]; omega
    · obtain rfl : k = l.length := by omega
      have HB := hid (HB4.out.trans (hb.mono HB4.out.size))
      clear hb
      go_wp2
      go_ret
      exact ⟨rfl, HB.out⟩
end Go.Proofs.YtlgablepckmogaaGreat
