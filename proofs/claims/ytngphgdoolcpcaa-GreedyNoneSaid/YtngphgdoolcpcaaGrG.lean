/-
  The walks of layer 30: the steps gathered.
-/
import Derived.Test.YtngphgdoolcpcaaGrF
import Derived.OneCell
namespace Go.Port
open Go.RowKit
theorem stc_length (l : List (Int × Sq)) : (l.flatMap stc).length = l.length * 4 := by
  induction l with
  | nil => rfl
  | cons x r ih => simp only [List.flatMap_cons, List.length_append, ih, List.length_cons, stc, List.length_nil]; omega
/-- What next hands out, and what is left. -/
def LeftAt (act : Int → Mv) (size : Int) (rest : List (Int × Sq)) (p : Int) : Prop := ∀ x r, rest = x :: r → 0 ≤ p ∧ r = planS act size p p
/-- Where the walk stands, if there is more to come. -/
def WkAt (W : World) (Wk F : Nat) (least : Int) (t : TypeId) (rest : List (Int × Sq)) (p : Int) : Prop := rest ≠ [] → Blk W Wk [.pointer (some ⟨F, 0, none⟩), .int .i64 p, .int .i64 p, .int .i64 least] t
theorem left_of {act : Int → Mv} {size p p' : Int} {ok : Bool} {x : Int × Sq} {K : Int → Prop} (h : (ok = false ∧ planS act size p p = []) ∨ (ok = true ∧ 0 ≤ p' ∧ planS act size p p = x :: planS act size p' p' ∧ K p')) :
    ∃ rest, planS act size p p = rest ∧ LeftAt act size rest p' ∧ ok = !rest.isEmpty ∧ (∀ y r, rest = y :: r → y = x) ∧ (rest ≠ [] → K p') := by
  rcases h with ⟨rfl, h2⟩ | ⟨rfl, h2, h3, h4⟩
  · refine ⟨[], h2, ?_, rfl, ?_, fun e => absurd rfl e⟩
    · intro y r e; cases e
    · intro y r e; cases e
  · refine ⟨_, h3, ?_, rfl, ?_, fun _ => h4⟩
    · intro y r e; cases e; exact ⟨h2, rfl⟩
    · intro y r e; cases e; rfl
end Go.Port
namespace Go.Proofs.Ytngphgdoolcpcaa
open Go.RowKit Go.Port

theorem Try.info_step : (Try.prog.info? 72).map (fun i => (i.zero, i.size, i.bytes)) = some (some (.agg #[.int .i64 0, .int .i64 0, .int .i64 0, .int .i64 0]), 4, 32) := by kernel_rfl

/-- Next, in the words of what is left. -/
theorem gnext_left (bs : List UInt8) (A : Nat) (W D : Int) (F Wk : Nat) (p least : Int) (w0 w : World) (h : FdAt 57 119 bs A W D F w0) (hb0 : Below w0.heap.size w0 w) (hWk : w0.heap.size ≤ Wk)
    (hk : Blk w Wk [.pointer (some ⟨F, 0, none⟩), .int .i64 p, .int .i64 p, .int .i64 least] 94) (hp : 0 ≤ p) :
    Calls Try.prog 51 #[.pointer (some ⟨Wk, 0, none⟩)] w fun e w' => ∃ (x : Int × Sq) (ok : Bool) (p' : Int), e = .returned (.tuple #[stv x, .bool ok]) ∧ w.grownBy w' (some Wk) ∧
      Hid ((ok = false ∧ planS (greedyA (findS bs A W D) least) ((bs.length : Int) - A) p p = []) ∨ (ok = true ∧ 0 ≤ p' ∧ planS (greedyA (findS bs A W D) least) ((bs.length : Int) - A) p p = x :: planS (greedyA (findS bs A W D) least) ((bs.length : Int) - A) p' p' ∧ Blk w' Wk [.pointer (some ⟨F, 0, none⟩), .int .i64 p', .int .i64 p', .int .i64 least] 94)) := by
  refine (gnext_any bs A W D F Wk p p least w0 w h hb0 hWk hk hp (Int.le_refl _)).mono ?_
  rintro e w' ⟨h1, h2⟩
  have hs := planS_scan (findS_ok (B := bs) (A := A) (W := W) (D := D) (least := least)) ((bs.length : Int) - A) ((bs.length : Int) - A - p).toNat p p (by omega)
  cases ho : scanS (greedyA (findS bs A W D) least) ((bs.length : Int) - A) p with
  | none =>
    rw [ho] at h1 hs
    exact ⟨_, _, 0, h1.1, h2, hid (.inl ⟨rfl, hs⟩)⟩
  | some y =>
    obtain ⟨q, s⟩ := y
    rw [ho] at h1 hs
    have h3 := scanS_some (findS_ok (B := bs) (A := A) (W := W) (D := D) (least := least)) ((bs.length : Int) - A - p).toNat (by omega) ho
    have h4 := ((findS_ok (B := bs) (A := A) (W := W) (D := D) (least := least)) q).2 s h3.2.2
    exact ⟨_, _, q + s.len, h1.1, h2, hid (.inr ⟨rfl, by omega, hs, h1.2⟩)⟩

set_option maxRecDepth 100000 in
set_option maxHeartbeats 8000000 in
theorem ggath_any (bs : List UInt8) (A : Nat) (W D : Int) (F Wk : Nat) (p least : Int) (w0 w : World) (h : FdAt 57 119 bs A W D F w0) (hb0 : Below w0.heap.size w0 w) (hWk : w0.heap.size ≤ Wk)
    (hk : Blk w Wk [.pointer (some ⟨F, 0, none⟩), .int .i64 p, .int .i64 p, .int .i64 least] 94) (hp : 0 ≤ p) :
    Calls Try.prog 50 #[.func (.func 51) #[.pointer (some ⟨Wk, 0, none⟩)] #[]] w fun e w' => ∃ v, e = .returned v ∧ w'.ownsRow w.heap.size 72 4 v (planS (greedyA (findS bs A W D) least) ((bs.length : Int) - A) p p).length ((planS (greedyA (findS bs A W D) least) ((bs.length : Int) - A) p p).flatMap stc) ∧ w.grownBy w' (some Wk) := by
  have HNx := hid (fun W' (hW' : Below w0.heap.size w0 W') q (hq : 0 ≤ q) hk' => gnext_left bs A W D F Wk q least w0 W' h hW' hWk hk' hq)
  have hlen := planS_length (findS_ok (B := bs) (A := A) (W := W) (D := D) (least := least)) ((bs.length : Int) - A) ((bs.length : Int) - A - p).toNat p p (by omega)
  have hn := h.hn
  have hlen2 : (planS (greedyA (findS bs A W D) least) ((bs.length : Int) - A) p p).length ≤ 1000000 := by omega
  generalize (bs.length : Int) - (A : Int) = size at *
  generalize findS bs A W D = find at *
  obtain ⟨L, hL⟩ : ∃ L, planS (greedyA find least) size p p = L := ⟨_, rfl⟩
  rw [hL] at hlen2 ⊢
  have HL := hid hL
  have HLn := hid hlen2
  have HK := hid hk
  have HP := hid hp
  have HB := hid hb0
  have hklt := hk.lt
  clear h hb0 hk hp hlen hlen2 hn hL
  unfold stv at HNx
  go_enter Try.func50, Try.ntmps50
  go_wp2_with fail
  refine (HNx.out w HB.out p HP.out HK.out).mono ?_
  rintro e w1 ⟨⟨xa, xl, xn, xo⟩, ok, p1, rfl, hg1, H1⟩
  dsimp only
  have HG1 := hid (grown_below hg1 (below_new w1 (.cells #[.int .i64 xa, .int .i64 xl, .int .i64 xn, .int .i64 xo] 72)))
  have HX1 := hid (Blk.new w1 [.int .i64 xa, .int .i64 xl, .int .i64 xn, .int .i64 xo] 72)
  have HB1 := hid ((HB.out.grown hg1 HB.out.size (fun k e => by cases e; exact hWk)).alloc (Nat.le_trans HB.out.size hg1.size) (.cells #[.int .i64 xa, .int .i64 xl, .int .i64 xn, .int .i64 xo] 72))
  have hs1 := hg1.size
  obtain ⟨rest0, h2, h3, rfl, h5, h6⟩ := left_of (K := fun q => Blk w1 Wk [.pointer (some ⟨F, 0, none⟩), .int .i64 q, .int .i64 q, .int .i64 least] 94) H1.out
  have HK1 := hid (And.intro (HL.out.symm.trans h2) (And.intro h3 h5))
  have HW1 := hid (show WkAt (w1.alloc (.cells #[.int .i64 xa, .int .i64 xl, .int .i64 xn, .int .i64 xo] 72)) Wk F least 94 rest0 p1 from fun e => (h6 e).alloc _)
  clear h2 h3 h5 h6
  clear hg1 H1
  go_wp2
  generalize w1.heap.size = B1 at *
  generalize w1.alloc (.cells #[.int .i64 xa, .int .i64 xl, .int .i64 xn, .int .i64 xo] 72) = w2 at *
  go_loopg [2, 3, 4] L.length (fun g v t3 t4 wr => ∃ (pre rest : List (Int × Sq)) (B : Nat) (x : Int × Sq) (p' : Int), Hid (L = pre ++ rest ∧ LeftAt (greedyA find least) size rest p' ∧ (∀ y r, rest = y :: r → y = x)) ∧ rest.length = g ∧ t3 = .pointer (some ⟨B, 0, none⟩) ∧ t4 = .bool (!rest.isEmpty) ∧ WkAt wr Wk F least 94 rest p' ∧ Blk wr B (stc x) 72 ∧ w.heap.size ≤ B ∧ wr.ownsRow w.heap.size 72 4 v pre.length (pre.flatMap stc) ∧ v.ownBlock ≠ some B ∧ w.grownBy wr (some Wk) ∧ Below w0.heap.size w0 wr)
  case atStart =>
    have hl := congrArg List.length HK1.out.1
    exact ⟨[], rest0, B1, (xa, ⟨xl, xn, xo⟩), p1, hid HK1.out, hl.symm, rfl, rfl, HW1.out, HX1.out, hs1, World.ownsRow_nil _ _ _ _, (fun e => by cases e), HG1.out, HB1.out⟩
  case round =>
    obtain ⟨pre, rest, B, ⟨xa, xl, xn, xo⟩, p', HI, hgl, rfl, rfl, hwk, hx, hBs, hown, hne, hgr, hbr⟩ := hrel
    have HO := hid hown
    have HX := hid hx
    have HW := hid hwk
    have HG := hid hgr
    have HB := hid hbr
    have HNe := hid hne
    have HGl := hid hgl
    clear hgl
    cases rest with
    | nil =>
      have hE : L = pre := by rw [HI.out.1, List.append_nil]
      subst hE
      clear hown hx hwk hgr hbr hne
      go_wp2
      go_ret
      exact ⟨_, rfl, HO.out, HG.out⟩
    | cons y rest =>
      obtain rfl := HI.out.2.2 y rest rfl
      have hlf := HI.out.2.1 _ _ rfl
      have hL2 : L = (pre ++ [(xa, ⟨xl, xn, xo⟩)]) ++ rest := by rw [HI.out.1, List.append_assoc]; rfl
      have hpl : pre.length + 1 ≤ 1000000 := by
        have h1 := HLn.out
        rw [hL2] at h1
        simp only [List.length_append, List.length_cons, List.length_nil] at h1
        omega
      have HL2 := hid hL2
      have HPl := hid hpl
      have HLf := hid hlf
      have x0 := hx.cell (k := 0) rfl
      have x1 := hx.cell (k := 1) rfl
      have x2 := hx.cell (k := 2) rfl
      have x3 := hx.cell (k := 3) rfl
      have hgs : w.heap.size ≤ wr.heap.size := hgr.size
      obtain ⟨av, cv, rfl⟩ := own_slice hown
      clear hown hx hwk hgr hbr hne hL2 hpl hlf
      simp only [List.isEmpty_cons, Bool.not_false]
      go_wp2_with (at_builtin; refine Hid.out ?_)
      refine hid ?_
      refine wpList_append1 rfl _ _ 68 rfl 72 _ 4 32 Try.underlying68 Try.info_step rfl (by decide) (by decide) _ w.heap.size _ _ _ [.int .i64 xa, .int .i64 xl, .int .i64 xn, .int .i64 xo] rfl ?hu rfl rfl (by exact HO.out) ?hn hgs ?hk
      case hu => simp [Value.oneCell']
      case hn => have := HPl.out; omega
      case hk =>
        intro v' w3 hown' hg
        have hbg := below_grown HO.out hg hgs
        have hx3 := HX.out.grown hg (Ne.symm HNe.out)
        have hw3 := (HW.out (by simp)).grown hg (own_neT HO.out (HW.out (by simp)) (by decide))
        have hg3 : w.grownBy w3 (some Wk) := by
          have h1 := HG.out
          refine ⟨hbg.os.trans h1.os, hbg.tape.trans h1.tape, hbg.output.trans h1.output, Nat.le_trans h1.size hg.size, fun k hk hne => (hbg.block k hk).trans (h1.block k hk hne)⟩
        have hb3 := HB.out.trans (hbg.mono (by have := HB.out.size; omega))
        have x0 := hx3.cell (k := 0) rfl
        have x1 := hx3.cell (k := 1) rfl
        have x2 := hx3.cell (k := 2) rfl
        have x3 := hx3.cell (k := 3) rfl
        have hown3 : w3.ownsRow w.heap.size 72 4 v' (pre ++ [((xa, ⟨xl, xn, xo⟩) : Int × Sq)]).length ((pre ++ [((xa, ⟨xl, xn, xo⟩) : Int × Sq)]).flatMap stc) := by
          rw [List.length_append, List.flatMap_append]
          exact hown'
        have hne3 : v'.ownBlock ≠ some w3.heap.size := fun e => Nat.lt_irrefl _ (hown'.lt _ e).2
        have hw4 := hw3.alloc (.cells #[.int .i64 xa, .int .i64 xl, .int .i64 xn, .int .i64 xo] 72)
        have hb4 := hb3.alloc hb3.size (.cells #[.int .i64 xa, .int .i64 xl, .int .i64 xn, .int .i64 xo] 72)
        have hg4 := grown_below hg3 (below_new w3 (.cells #[.int .i64 xa, .int .i64 xl, .int .i64 xn, .int .i64 xo] 72))
        have hx4 := Blk.new w3 [.int .i64 xa, .int .i64 xl, .int .i64 xn, .int .i64 xo] 72
        have ho4 := hown3.alloc (.cells #[.int .i64 xa, .int .i64 xl, .int .i64 xn, .int .i64 xo] 72)
        have hs3 := hg3.size
        have HW4 := hid hw4
        have HB4 := hid hb4
        have HG4 := hid hg4
        have HX4 := hid hx4
        have HO4 := hid ho4
        have HNe3 := hid hne3
        have HCall := hid (HNx.out _ hb4 p' HLf.out.1 hw4)
        clear hown' hg hbg hx3 hw3 hg3 hb3 hown3 hne3 hw4 hb4 hg4 hx4 ho4 HO HX HW HG HB
        go_wp2_with fail
        refine HCall.out.mono ?_
        rintro e w5 ⟨⟨ya, yl, yn, yo⟩, ok, p5, rfl, hg5, H5⟩
        dsimp only
        clear x0 x1 x2 x3
        obtain ⟨rest1, h2, h3, rfl, h5, h6⟩ := left_of (K := fun q => Blk w5 Wk [.pointer (some ⟨F, 0, none⟩), .int .i64 q, .int .i64 q, .int .i64 least] 94) H5.out
        have hr1 : rest = rest1 := HLf.out.2.trans h2
        subst hr1
        have hGk : w3.heap.size ≠ Wk := by omega
        have hx5 := HX4.out.grown hg5 (fun e => by cases e; exact hGk rfl)
        have ho5 := own_grownAt HO4.out hg5 hklt
        have hb5 := HB4.out.grown hg5 HB4.out.size (fun k e => by cases e; exact hWk)
        have hg6 : w.grownBy w5 (some Wk) := by
          have h1 := HG4.out
          exact ⟨hg5.os.trans h1.os, hg5.tape.trans h1.tape, hg5.output.trans h1.output, Nat.le_trans h1.size hg5.size, fun k hk hne => (hg5.block k (Nat.lt_of_lt_of_le hk h1.size) hne).trans (h1.block k hk hne)⟩
        generalize w3.heap.size = G at *
        have x0 := hx5.cell (k := 0) rfl
        have x1 := hx5.cell (k := 1) rfl
        have x2 := hx5.cell (k := 2) rfl
        have x3 := hx5.cell (k := 3) rfl
        have z0 := hx5.frozen 0
        have z1 := hx5.frozen 1
        have z2 := hx5.frozen 2
        have z3 := hx5.frozen 3
        have HX9 := hid ((((hx5.set 0 (.int .i64 ya)).set 1 (.int .i64 yl)).set 2 (.int .i64 yn)).set 3 (.int .i64 yo))
        have HG9 := hid (grown_set (grown_set (grown_set (grown_set hg6 ⟨G, 0, none⟩ (.int .i64 ya) (.inr hs3)) ⟨G, 1, none⟩ (.int .i64 yl) (.inr hs3)) ⟨G, 2, none⟩ (.int .i64 yn) (.inr hs3)) ⟨G, 3, none⟩ (.int .i64 yo) (.inr hs3))
        have hwG : w0.heap.size ≤ G := by omega
        have HB9 := hid ((((hb5.setCell (p := ⟨G, 0, none⟩) hwG (.int .i64 ya)).setCell (p := ⟨G, 1, none⟩) hwG (.int .i64 yl)).setCell (p := ⟨G, 2, none⟩) hwG (.int .i64 yn)).setCell (p := ⟨G, 3, none⟩) hwG (.int .i64 yo))
        have HW9 := hid (fun e => ((((h6 e).other (a := ⟨G, 0, none⟩) (.int .i64 ya) hGk).other (a := ⟨G, 1, none⟩) (.int .i64 yl) hGk).other (a := ⟨G, 2, none⟩) (.int .i64 yn) hGk).other (a := ⟨G, 3, none⟩) (.int .i64 yo) hGk)
        have HO9 := hid (ownsRow_setCell_other (ownsRow_setCell_other (ownsRow_setCell_other (ownsRow_setCell_other ho5 (a := ⟨G, 0, none⟩) HNe3.out (.int .i64 ya)) (a := ⟨G, 1, none⟩) HNe3.out (.int .i64 yl)) (a := ⟨G, 2, none⟩) HNe3.out (.int .i64 yn)) (a := ⟨G, 3, none⟩) HNe3.out (.int .i64 yo))
        have HI5 := hid (And.intro HL2.out (And.intro h3 h5))
        clear hg5 H5 h2 h3 h5 h6 hx5 ho5 hb5 hg6 HX4 HO4 HB4 HG4 HW4 HNx HI HCall
        go_wp2
        go_roundg rest.length
        case measure => have := HGl.out; simp only [List.length_cons] at this; omega
        case rel => exact ⟨_, rest, G, (ya, ⟨yl, yn, yo⟩), p5, HI5, rfl, rfl, rfl, HW9.out, HX9.out, hs3, HO9.out, HNe3.out, HG9.out, HB9.out⟩
end Go.Proofs.Ytngphgdoolcpcaa
