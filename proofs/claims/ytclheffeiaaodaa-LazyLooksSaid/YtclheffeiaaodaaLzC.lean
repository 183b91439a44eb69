/-
  The walks of layer 31: the steps of a lazy plan.
-/
import Derived.Test.YtclheffeiaaodaaLzB
import Derived.Test.YtclheffeiaaodaaGrH
namespace Go.Port
open Go.RowKit
def lazyE (far : Int) : Int := if far < 0 ∨ 8 < far then 2 else 0
/-- The lazy plan, with the positions of its matches. -/
def lazyP (bs : List UInt8) (A : Nat) (W D : Int) (far : Nat) : List (Int × Sq) := planS (lazyA (findS bs A W D) far) ((bs.length : Int) - A) 0 0
def lazyL (bs : List UInt8) (A : Nat) (W D far : Int) : List (Int × Sq) := if lazyE far = 0 then lazyP bs A W D far.toNat else []
theorem lazyP_length (bs : List UInt8) (A : Nat) (W D : Int) (far : Nat) : (lazyP bs A W D far).length ≤ bs.length := by
  have := planS_length (lazy_ok (B := bs) (A := A) (W := W) (D := D) (far := far)) ((bs.length : Int) - A) ((bs.length : Int) - A).toNat 0 0 (by omega)
  unfold lazyP
  omega
theorem lazyL_length (bs : List UInt8) (A : Nat) (W D far : Int) : (lazyL bs A W D far).length ≤ bs.length := by
  unfold lazyL
  split
  · exact lazyP_length _ _ _ _ _
  · simp
end Go.Port
namespace Go.Proofs.Ytclheffeiaaodaa
open Go.RowKit Go.Port

theorem Try.info_lzstep : (Try.prog.info? 75).map (fun i => (i.zero, i.size, i.bytes)) = some (some (.agg #[.int .i64 0, .int .i64 0, .int .i64 0, .int .i64 0]), 4, 32) := by kernel_rfl

/-- Next, in the words of what is left. -/
theorem lznext_left (bs : List UInt8) (A : Nat) (W D : Int) (F Wk : Nat) (p : Int) (far : Nat) (w0 w : World) (h : FdAt 64 130 bs A W D F w0) (hb0 : Below w0.heap.size w0 w) (hWk : w0.heap.size ≤ Wk)
    (hk : Blk w Wk [.pointer (some ⟨F, 0, none⟩), .int .i64 p, .int .i64 p, .int .i64 (far : Int)] 104) (hp : 0 ≤ p) (hfar : far ≤ 8) :
    Calls Try.prog 55 #[.pointer (some ⟨Wk, 0, none⟩)] w fun e w' => ∃ (x : Int × Sq) (ok : Bool) (p' : Int), e = .returned (.tuple #[stv x, .bool ok]) ∧ w.grownBy w' (some Wk) ∧
      Hid ((ok = false ∧ planS (lazyA (findS bs A W D) far) ((bs.length : Int) - A) p p = []) ∨ (ok = true ∧ 0 ≤ p' ∧ planS (lazyA (findS bs A W D) far) ((bs.length : Int) - A) p p = x :: planS (lazyA (findS bs A W D) far) ((bs.length : Int) - A) p' p' ∧ Blk w' Wk [.pointer (some ⟨F, 0, none⟩), .int .i64 p', .int .i64 p', .int .i64 (far : Int)] 104)) := by
  refine (lznext_any bs A W D F Wk p p far w0 w h hb0 hWk hk hp (Int.le_refl _) hfar).mono ?_
  rintro e w' ⟨h1, h2⟩
  have hs := planS_scan (lazy_ok (B := bs) (A := A) (W := W) (D := D) (far := far)) ((bs.length : Int) - A) ((bs.length : Int) - A - p).toNat p p (by omega)
  cases ho : scanS (lazyA (findS bs A W D) far) ((bs.length : Int) - A) p with
  | none =>
    rw [ho] at h1 hs
    exact ⟨_, _, 0, h1.1, h2, hid (.inl ⟨rfl, hs⟩)⟩
  | some y =>
    obtain ⟨q, s⟩ := y
    rw [ho] at h1 hs
    have h3 := scanS_some (lazy_ok (B := bs) (A := A) (W := W) (D := D) (far := far)) ((bs.length : Int) - A - p).toNat (by omega) ho
    have h4 := ((lazy_ok (B := bs) (A := A) (W := W) (D := D) (far := far)) q).2 s h3.2.2
    exact ⟨_, _, q + s.len, h1.1, h2, hid (.inr ⟨rfl, by omega, hs, h1.2⟩)⟩

set_option maxRecDepth 100000 in
set_option maxHeartbeats 8000000 in
theorem lzsteps_ok (bs : List UInt8) (A : Nat) (W D : Int) (F : Nat) (far : Nat) (w : World) (h : FdAt 64 130 bs A W D F w) (hfar : far ≤ 8) :
    Calls Try.prog 31 #[.pointer (some ⟨F, 0, none⟩), .int .i64 (far : Int)] w fun e w' => ∃ v, e = .returned (.tuple #[v, .int .i64 0]) ∧ w'.ownsRow w.heap.size 75 4 v (lazyP bs A W D far).length ((lazyP bs A W D far).flatMap stc) ∧ Below w.heap.size w w' := by
  have HNx := hid (fun W' (hW' : Below w.heap.size w W') q (hq : 0 ≤ q) hk' => lznext_left bs A W D F w.heap.size q far w W' h hW' (Nat.le_refl _) hk' hq hfar)
  have hlen := lazyP_length bs A W D far
  have hn := h.hn
  have hlen2 : (lazyP bs A W D far).length ≤ 1000000 := by omega
  have HDe := hid (cdepth_any bs A W D F w h)
  have hD := h.hD.1
  have hDn : ¬ D = 0 := by omega
  have hDb : (D == 0) = false := beq_eq_false_iff_ne.2 hDn
  unfold lazyP at hlen2 ⊢
  generalize (bs.length : Int) - (A : Int) = size at *
  generalize findS bs A W D = find at *
  obtain ⟨L, hL⟩ : ∃ L, planS (lazyA find far) size 0 0 = L := ⟨_, rfl⟩
  rw [hL] at hlen2 ⊢
  have HL := hid hL
  have HLn := hid hlen2
  have hWk : w.heap.size ≤ w.heap.size := Nat.le_refl _
  have hkz := Blk.new w [.pointer (some ⟨F, 0, none⟩), .int .i64 0, .int .i64 0, .int .i64 (far : Int)] 104
  have HK := hid hkz
  have HB := hid (below_new w (.cells #[.pointer (some ⟨F, 0, none⟩), .int .i64 0, .int .i64 0, .int .i64 (far : Int)] 104))
  have hklt := hkz.lt
  have HZs := hid HB.out.size
  have hf1 : ¬ (far : Int) < 0 := by omega
  have hf2 : ¬ 8 < (far : Int) := by omega
  clear h hlen hlen2 hn hL hkz hD
  unfold stv at HNx
  go_enter Try.func31, Try.ntmps31
  go_wp2_with fail
  refine wp_scope_straight ?_
  go_wp2_with fail
  refine HDe.out.mono ?_
  rintro e w' ⟨rfl, rfl⟩
  clear HDe
  go_upto_region 7 with fail
  clear hf1 hf2
  generalize w.alloc (.cells #[.pointer (some ⟨F, 0, none⟩), .int .i64 0, .int .i64 0, .int .i64 (far : Int)] 104) = wz at *
  go_wp2_with fail
  refine (HNx.out wz HB.out 0 (Int.le_refl _) HK.out).mono ?_
  rintro e w1 ⟨⟨xa, xl, xn, xo⟩, ok, p1, rfl, hg1, H1⟩
  dsimp only
  have HG1 := hid (grown_below hg1 (below_new w1 (.cells #[.int .i64 xa, .int .i64 xl, .int .i64 xn, .int .i64 xo] 75)))
  have HX1 := hid (Blk.new w1 [.int .i64 xa, .int .i64 xl, .int .i64 xn, .int .i64 xo] 75)
  have HB1 := hid ((HB.out.grown hg1 HB.out.size (fun k e => by cases e; exact hWk)).alloc (Nat.le_trans HB.out.size hg1.size) (.cells #[.int .i64 xa, .int .i64 xl, .int .i64 xn, .int .i64 xo] 75))
  have hs1 := hg1.size
  obtain ⟨rest0, h2, h3, rfl, h5, h6⟩ := left_of (K := fun q => Blk w1 w.heap.size [.pointer (some ⟨F, 0, none⟩), .int .i64 q, .int .i64 q, .int .i64 (far : Int)] 104) H1.out
  have HK1 := hid (And.intro (HL.out.symm.trans h2) (And.intro h3 h5))
  have HW1 := hid (show WkAt (w1.alloc (.cells #[.int .i64 xa, .int .i64 xl, .int .i64 xn, .int .i64 xo] 75)) w.heap.size F (far : Int) 104 rest0 p1 from fun e => (h6 e).alloc _)
  clear h2 h3 h5 h6
  clear hg1 H1
  go_wp2
  generalize w1.heap.size = B1 at *
  generalize w1.alloc (.cells #[.int .i64 xa, .int .i64 xl, .int .i64 xn, .int .i64 xo] 75) = w2 at *
  go_loopg [4, 7, 8] L.length (fun g v t3 t4 wr => ∃ (pre rest : List (Int × Sq)) (B : Nat) (x : Int × Sq) (p' : Int), Hid (L = pre ++ rest ∧ LeftAt (lazyA find far) size rest p' ∧ (∀ y r, rest = y :: r → y = x)) ∧ rest.length = g ∧ t3 = .pointer (some ⟨B, 0, none⟩) ∧ t4 = .bool (!rest.isEmpty) ∧ WkAt wr w.heap.size F (far : Int) 104 rest p' ∧ Blk wr B (stc x) 75 ∧ wz.heap.size ≤ B ∧ wr.ownsRow wz.heap.size 75 4 v pre.length (pre.flatMap stc) ∧ v.ownBlock ≠ some B ∧ wz.grownBy wr (some w.heap.size) ∧ Below w.heap.size w wr)
  case atStart =>
    have hl := congrArg List.length HK1.out.1
    exact ⟨[], rest0, B1, (xa, ⟨xl, xn, xo⟩), p1, hid HK1.out, hl.symm, rfl, rfl, HW1.out, HX1.out, hs1, World.ownsRow_nil _ _ _ _, (fun e => by cases e), HG1.out, HB1.out⟩
  case round =>
    obtain ⟨pre, rest, B, ⟨xa, xl, xn, xo⟩, p', HI, hgl, rfl, rfl, hwk, hx, hBs, hown, hne, hgr, hbr⟩ := hrel
    have HO := hid hown
    have HX := hid hx
    have HW := hid hwk
    have HG := hid hgr
    have HB := hid hbr
    have HNe := hid hne
    have HGl := hid hgl
    clear hgl
    cases rest with
    | nil =>
      have hE : L = pre := by rw [HI.out.1, List.append_nil]
      subst hE
      clear hown hx hwk hgr hbr hne
      have HF := hid (Nat.le_trans (Nat.le_refl _) HZs.out)
      go_wp2
      simp only [Exit.noGoto_ret]
      go_ret2
      exact ⟨_, rfl, own_le HO.out HF.out, HB.out⟩
    | cons y rest =>
      obtain rfl := HI.out.2.2 y rest rfl
      have hlf := HI.out.2.1 _ _ rfl
      have hL2 : L = (pre ++ [(xa, ⟨xl, xn, xo⟩)]) ++ rest := by rw [HI.out.1, List.append_assoc]; rfl
      have hpl : pre.length + 1 ≤ 1000000 := by
        have h1 := HLn.out
        rw [hL2] at h1
        simp only [List.length_append, List.length_cons, List.length_nil] at h1
        omega
      have HL2 := hid hL2
      have HPl := hid hpl
      have HLf := hid hlf
      have x0 := hx.cell (k := 0) rfl
      have x1 := hx.cell (k := 1) rfl
      have x2 := hx.cell (k := 2) rfl
      have x3 := hx.cell (k := 3) rfl
      have hgs : wz.heap.size ≤ wr.heap.size := hgr.size
      obtain ⟨av, cv, rfl⟩ := own_slice hown
      clear hown hx hwk hgr hbr hne hL2 hpl hlf
      simp only [List.isEmpty_cons, Bool.not_false]
      go_wp2_with (at_builtin; refine Hid.out ?_)
      refine hid ?_
      refine wpList_append1 rfl _ _ 71 rfl 75 _ 4 32 Try.underlying71 Try.info_step rfl (by decide) (by decide) _ wz.heap.size _ _ _ [.int .i64 xa, .int .i64 xl, .int .i64 xn, .int .i64 xo] rfl ?hu rfl rfl (by exact HO.out) ?hn hgs ?hk
      case hu => simp [Value.oneCell']
      case hn => have := HPl.out; omega
      case hk =>
        intro v' w3 hown' hg
        have hbg := below_grown HO.out hg hgs
        have hx3 := HX.out.grown hg (Ne.symm HNe.out)
        have hw3 := (HW.out (by simp)).grown hg (own_neT HO.out (HW.out (by simp)) (by decide))
        have hg3 : wz.grownBy w3 (some w.heap.size) := by
          have h1 := HG.out
          refine ⟨hbg.os.trans h1.os, hbg.tape.trans h1.tape, hbg.output.trans h1.output, Nat.le_trans h1.size hg.size, fun k hk hne => (hbg.block k hk).trans (h1.block k hk hne)⟩
        have hb3 := HB.out.trans (hbg.mono (by have := HB.out.size; omega))
        have x0 := hx3.cell (k := 0) rfl
        have x1 := hx3.cell (k := 1) rfl
        have x2 := hx3.cell (k := 2) rfl
        have x3 := hx3.cell (k := 3) rfl
        have hown3 : w3.ownsRow wz.heap.size 75 4 v' (pre ++ [((xa, ⟨xl, xn, xo⟩) : Int × Sq)]).length ((pre ++ [((xa, ⟨xl, xn, xo⟩) : Int × Sq)]).flatMap stc) := by
          rw [List.length_append, List.flatMap_append]
          exact hown'
        have hne3 : v'.ownBlock ≠ some w3.heap.size := fun e => Nat.lt_irrefl _ (hown'.lt _ e).2
        have hw4 := hw3.alloc (.cells #[.int .i64 xa, .int .i64 xl, .int .i64 xn, .int .i64 xo] 75)
        have hb4 := hb3.alloc hb3.size (.cells #[.int .i64 xa, .int .i64 xl, .int .i64 xn, .int .i64 xo] 75)
        have hg4 := grown_below hg3 (below_new w3 (.cells #[.int .i64 xa, .int .i64 xl, .int .i64 xn, .int .i64 xo] 75))
        have hx4 := Blk.new w3 [.int .i64 xa, .int .i64 xl, .int .i64 xn, .int .i64 xo] 75
        have ho4 := hown3.alloc (.cells #[.int .i64 xa, .int .i64 xl, .int .i64 xn, .int .i64 xo] 75)
        have hs3 := hg3.size
        have HW4 := hid hw4
        have HB4 := hid hb4
        have HG4 := hid hg4
        have HX4 := hid hx4
        have HO4 := hid ho4
        have HNe3 := hid hne3
        have HCall := hid (HNx.out _ hb4 p' HLf.out.1 hw4)
        clear hown' hg hbg hx3 hw3 hg3 hb3 hown3 hne3 hw4 hb4 hg4 hx4 ho4 HO HX HW HG HB
        go_wp2_with fail
        refine HCall.out.mono ?_
        rintro e w5 ⟨⟨ya, yl, yn, yo⟩, ok, p5, rfl, hg5, H5⟩
        dsimp only
        clear x0 x1 x2 x3
        obtain ⟨rest1, h2, h3, rfl, h5, h6⟩ := left_of (K := fun q => Blk w5 w.heap.size [.pointer (some ⟨F, 0, none⟩), .int .i64 q, .int .i64 q, .int .i64 (far : Int)] 104) H5.out
        have hr1 : rest = rest1 := HLf.out.2.trans h2
        subst hr1
        have hGk : w3.heap.size ≠ w.heap.size := by omega
        have hx5 := HX4.out.grown hg5 (fun e => hGk (Option.some.inj e))
        have ho5 := own_grownAt HO4.out hg5 hklt
        have hb5 := HB4.out.grown hg5 HB4.out.size (fun k e => by cases e; exact hWk)
        have hg6 : wz.grownBy w5 (some w.heap.size) := by
          have h1 := HG4.out
          exact ⟨hg5.os.trans h1.os, hg5.tape.trans h1.tape, hg5.output.trans h1.output, Nat.le_trans h1.size hg5.size, fun k hk hne => (hg5.block k (Nat.lt_of_lt_of_le hk h1.size) hne).trans (h1.block k hk hne)⟩
        generalize w3.heap.size = G at *
        have x0 := hx5.cell (k := 0) rfl
        have x1 := hx5.cell (k := 1) rfl
        have x2 := hx5.cell (k := 2) rfl
        have x3 := hx5.cell (k := 3) rfl
        have z0 := hx5.frozen 0
        have z1 := hx5.frozen 1
        have z2 := hx5.frozen 2
        have z3 := hx5.frozen 3
        have HX9 := hid ((((hx5.set 0 (.int .i64 ya)).set 1 (.int .i64 yl)).set 2 (.int .i64 yn)).set 3 (.int .i64 yo))
        have HG9 := hid (grown_set (grown_set (grown_set (grown_set hg6 ⟨G, 0, none⟩ (.int .i64 ya) (.inr hs3)) ⟨G, 1, none⟩ (.int .i64 yl) (.inr hs3)) ⟨G, 2, none⟩ (.int .i64 yn) (.inr hs3)) ⟨G, 3, none⟩ (.int .i64 yo) (.inr hs3))
        have hwG : w.heap.size ≤ G := by omega
        have HB9 := hid ((((hb5.setCell (p := ⟨G, 0, none⟩) hwG (.int .i64 ya)).setCell (p := ⟨G, 1, none⟩) hwG (.int .i64 yl)).setCell (p := ⟨G, 2, none⟩) hwG (.int .i64 yn)).setCell (p := ⟨G, 3, none⟩) hwG (.int .i64 yo))
        have HW9 := hid (fun e => ((((h6 e).other (a := ⟨G, 0, none⟩) (.int .i64 ya) hGk).other (a := ⟨G, 1, none⟩) (.int .i64 yl) hGk).other (a := ⟨G, 2, none⟩) (.int .i64 yn) hGk).other (a := ⟨G, 3, none⟩) (.int .i64 yo) hGk)
        have HO9 := hid (ownsRow_setCell_other (ownsRow_setCell_other (ownsRow_setCell_other (ownsRow_setCell_other ho5 (a := ⟨G, 0, none⟩) HNe3.out (.int .i64 ya)) (a := ⟨G, 1, none⟩) HNe3.out (.int .i64 yl)) (a := ⟨G, 2, none⟩) HNe3.out (.int .i64 yn)) (a := ⟨G, 3, none⟩) HNe3.out (.int .i64 yo))
        have HI5 := hid (And.intro HL2.out (And.intro h3 h5))
        clear hg5 H5 h2 h3 h5 h6 hx5 ho5 hb5 hg6 HX4 HO4 HB4 HG4 HW4 HNx HI HCall
        go_wp2
        go_roundg rest.length
        case measure => have := HGl.out; simp only [List.length_cons] at this; omega
        case rel => exact ⟨_, rest, G, (ya, ⟨yl, yn, yo⟩), p5, HI5, rfl, rfl, rfl, HW9.out, HX9.out, hs3, HO9.out, HNe3.out, HG9.out, HB9.out⟩
end Go.Proofs.Ytclheffeiaaodaa
