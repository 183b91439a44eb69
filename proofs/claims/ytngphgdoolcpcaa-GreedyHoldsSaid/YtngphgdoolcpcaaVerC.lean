/-
  The walks of layer 22 (plan), third part: the steps of a plan that breaks no rule.
-/
import Derived.Test.YtngphgdoolcpcaaVerB
namespace Go.Port
open Go.RowKit
/-- Blocks below B lie as they lay, but one. -/
structure KeepLow (B : Nat) (row : Option Nat) (W W' : World) : Prop where
  os : W'.os = W.os
  tape : W'.tape = W.tape
  output : W'.output = W.output
  size : W.heap.size ≤ W'.heap.size
  block : ∀ k, k < B → some k ≠ row → W'.heap[k]? = W.heap[k]?
theorem KeepLow.refl (B : Nat) (row : Option Nat) (W : World) : KeepLow B row W W := ⟨rfl, rfl, rfl, Nat.le_refl _, fun _ _ _ => rfl⟩
theorem KeepLow.trans {B : Nat} {row : Option Nat} {W W1 W2 : World} (h : KeepLow B row W W1) (k : KeepLow B row W1 W2) : KeepLow B row W W2 :=
  ⟨k.os.trans h.os, k.tape.trans h.tape, k.output.trans h.output, Nat.le_trans h.size k.size, fun j hj hr => (k.block j hj hr).trans (h.block j hj hr)⟩
theorem KeepLow.of_below {B : Nat} {row : Option Nat} {W W1 : World} (h : Below B W W1) : KeepLow B row W W1 := ⟨h.os, h.tape, h.output, h.size, fun k hk _ => h.block k hk⟩
theorem KeepLow.mono {B B' : Nat} {row : Option Nat} {W W1 : World} (h : KeepLow B row W W1) (hB : B' ≤ B) : KeepLow B' row W W1 := ⟨h.os, h.tape, h.output, h.size, fun k hk hr => h.block k (Nat.lt_of_lt_of_le hk hB) hr⟩
theorem KeepLow.set {B : Nat} {row : Option Nat} {W W1 : World} (h : KeepLow B row W W1) (a : Addr) (u : Value) (ha : B ≤ a.block ∨ row = some a.block) : KeepLow B row W (W1.setCell a u) :=
  ⟨h.os, h.tape, h.output, by simpa using h.size, fun k hk hr => (Below.heap_setCell W1 a u k (by
    intro e
    rcases ha with ha | ha
    · omega
    · exact hr (by rw [ha, e]))).trans (h.block k hk hr)⟩
theorem KeepLow.blk {B : Nat} {row : Option Nat} {W W1 : World} (h : KeepLow B row W W1) {b : Nat} {vs : List Value} {t : TypeId} (hb : Blk W b vs t) (hB : b < B) (hr : some b ≠ row) : Blk W1 b vs t := (h.block b hB hr).trans hb
/-- .. but one that lies from B' on. -/
theorem KeepLow.below {B B' c : Nat} {W W1 : World} (h : KeepLow B (some c) W W1) (hB : B' ≤ B) (hc : B' ≤ c) : Below B' W W1 := ⟨h.os, h.tape, h.output, h.size, fun k hk => h.block k (by omega) (fun e => by cases e; omega)⟩
def pstsGo (size hav win : Int) : Int → Int → List Sq → List PSt
  | _, _, [] => []
  | n, p, s :: r => ⟨s, n, p, size, hav, win⟩ :: pstsGo size hav win (n + 1) (p + s.lit + s.len) r
/-- The steps of a plan. -/
def psts (size hav win : Int) (l : List Sq) : List PSt := pstsGo size hav win 0 0 l
theorem pstsGo_snoc (size hav win : Int) (x : Sq) : ∀ (l : List Sq) (n p : Int), pstsGo size hav win n p (l ++ [x]) = pstsGo size hav win n p l ++ [⟨x, n + l.length, endOf p l, size, hav, win⟩] := by
  intro l
  induction l with
  | nil => intro n p; simp [pstsGo, endOf]
  | cons s r ih =>
    intro n p
    simp only [List.cons_append, pstsGo, ih, endOf, List.length_cons]
    congr 4
    omega
theorem psts_snoc (size hav win : Int) (x : Sq) (l : List Sq) : psts size hav win (l ++ [x]) = psts size hav win l ++ [⟨x, l.length, endOf 0 l, size, hav, win⟩] := by
  unfold psts
  rw [pstsGo_snoc, Int.zero_add]
theorem psts_length (size hav win : Int) (l : List Sq) : (psts size hav win l).length = l.length := by
  unfold psts
  generalize (0 : Int) = n
  have : ∀ (m p : Int), (pstsGo size hav win m p l).length = l.length := by
    induction l with
    | nil => intro m p; rfl
    | cons s r ih => intro m p; simp only [pstsGo, List.length_cons, ih]
  exact this _ _
theorem pstc_length (l : List PSt) : (l.flatMap pstc).length = l.length * 8 := by
  induction l with
  | nil => rfl
  | cons x r ih => simp only [List.flatMap_cons, List.length_append, ih, List.length_cons, pstc, List.length_nil]; omega
theorem pstsGo_get (size hav win : Int) : ∀ (l : List Sq) (n p : Int) (k : Nat) (s : Sq), l[k]? = some s → (pstsGo size hav win n p l)[k]? = some ⟨s, n + k, endOf p (l.take k), size, hav, win⟩ := by
  intro l
  induction l with
  | nil => intro n p k s h; simp at h
  | cons x r ih =>
    intro n p k s h
    cases k with
    | zero =>
      simp only [List.getElem?_cons_zero, Option.some.injEq] at h
      subst h
      simp [pstsGo, endOf]
    | succ k =>
      simp only [List.getElem?_cons_succ] at h
      have := ih (n + 1) (p + x.lit + x.len) k s h
      simp only [pstsGo, List.getElem?_cons_succ, this, List.take_succ_cons, endOf]
      congr 2
      omega
theorem pst_getc {l : List PSt} {k : Nat} {x : PSt} (h : l[k]? = some x) (j : Nat) (hj : j < 8) : (l.flatMap pstc)[k * 8 + j]? = (pstc x)[j]? := by
  obtain ⟨h1, h2⟩ := List.getElem?_eq_some_iff.1 h
  have hl : ((l.take k).flatMap pstc).length = k * 8 := by rw [pstc_length, List.length_take, Nat.min_eq_left (Nat.le_of_lt h1)]
  have e2 : l.flatMap pstc = (l.take k).flatMap pstc ++ (pstc l[k] ++ (l.drop (k + 1)).flatMap pstc) := by
    conv => lhs; rw [← List.take_append_drop k l, List.drop_eq_getElem_cons h1]
    rw [List.flatMap_append, List.flatMap_cons]
  subst h2
  rw [e2, List.getElem?_append_right (by omega), hl, Nat.add_sub_cancel_left, List.getElem?_append_left (by simp [pstc]; omega)]
end Go.Port
namespace Go.Proofs.Ytngphgdoolcpcaa
open Go.RowKit Go.Port

theorem Try.info_pst : (Try.prog.info? 86).map (fun i => (i.zero, i.size, i.bytes)) = some (some (.agg #[.int .i64 0, .int .i64 0, .int .i64 0, .int .i64 0, .int .i64 0, .int .i64 0, .int .i64 0, .int .i64 0]), 8, 64) := by kernel_rfl

set_option maxRecDepth 100000 in
set_option maxHeartbeats 4000000 in
theorem pstep1_any (x : PSt) (c B1 n : Nat) (v : Value) (xs : List Value) (w : World) (hc : Blk w c [v] 82) (hown : w.ownsRow B1 86 8 v n xs) (hn : n + 1 ≤ 1000000) (hB : B1 ≤ w.heap.size) (hcB : c < B1) :
    Calls Try.prog 63 #[pstv x, .pointer (some ⟨c, 0, none⟩)] w fun e w' => e = .returned (.tuple #[]) ∧ (∃ v', Blk w' c [v'] 82 ∧ w'.ownsRow B1 86 8 v' (n + 1) (xs ++ pstc x)) ∧ KeepLow B1 (some c) w w' := by
  obtain ⟨⟨lit, len, off⟩, num, at', size, hav, win⟩ := x
  obtain ⟨av, cv, rfl⟩ := own_slice hown
  have HO := hid (hown.alloc (.cells (pstc ⟨⟨lit, len, off⟩, num, at', size, hav, win⟩).toArray 86))
  have HC := hid (hc.alloc (.cells (pstc ⟨⟨lit, len, off⟩, num, at', size, hav, win⟩).toArray 86))
  have HK := hid (show KeepLow B1 (some c) w _ from KeepLow.of_below ((below_new w (.cells (pstc ⟨⟨lit, len, off⟩, num, at', size, hav, win⟩).toArray 86)).mono hB))
  have hB' : B1 ≤ (w.alloc (.cells (pstc ⟨⟨lit, len, off⟩, num, at', size, hav, win⟩).toArray 86)).heap.size := by simp; omega
  have c0 := HC.out.cell (k := 0) rfl
  have HX := hid (Blk.new w (pstc ⟨⟨lit, len, off⟩, num, at', size, hav, win⟩) 86)
  unfold pstc at HO HC HK c0 hB' HX
  unfold pstv pstc
  dsimp only at HO HC HK c0 hB' HX ⊢
  clear hc hown hB
  go_enter Try.func63, Try.ntmps63
  go_upto_region 1 with fail
  generalize (w.alloc (.cells #[.int .i64 lit, .int .i64 len, .int .i64 off, .int .i64 num, .int .i64 at', .int .i64 size, .int .i64 hav, .int .i64 win] 86)) = w1 at *
  have x0 := HX.out.cell (k := 0) rfl
  have x1 := HX.out.cell (k := 1) rfl
  have x2 := HX.out.cell (k := 2) rfl
  have x3 := HX.out.cell (k := 3) rfl
  have x4 := HX.out.cell (k := 4) rfl
  have x5 := HX.out.cell (k := 5) rfl
  have x6 := HX.out.cell (k := 6) rfl
  have x7 := HX.out.cell (k := 7) rfl
  go_wp2_with (at_builtin; refine Hid.out ?_)
  clear x0 x1 x2 x3 x4 x5 x6 x7
  refine hid ?_
  refine wpList_append1 rfl _ _ 82 rfl 86 _ 8 64 Try.underlying82 Try.info_pst rfl (by decide) (by decide) _ B1 _ _ _ [.int .i64 lit, .int .i64 len, .int .i64 off, .int .i64 num, .int .i64 at', .int .i64 size, .int .i64 hav, .int .i64 win] rfl ?hu rfl rfl (by exact HO.out) ?hn hB' ?hk
  case hu => simp [Value.oneCell']
  case hn => omega
  case hk =>
    intro v' w3 hown' hg
    obtain ⟨a2, c2, rfl⟩ := own_slice hown'
    have hbg := below_grown HO.out hg hB'
    have hc3 := HC.out.below hbg hcB
    have d0 := hc3.cell (k := 0) rfl
    have z0 := hc3.frozen 0
    have HC3 := hid (hc3.set 0 (.slice a2 (n + 1) c2))
    have HO3 := hid (ownsRow_setCell_other hown' (a := ⟨c, 0, none⟩) (fun e => by have h := (hown'.lt _ e).1; change B1 ≤ c at h; omega) (.slice a2 (n + 1) c2))
    have HK3 := hid ((HK.out.trans (KeepLow.of_below hbg)).set ⟨c, 0, none⟩ (.slice a2 (n + 1) c2) (.inr rfl))
    clear hown' hg hbg hc3 c0
    go_wp2
    go_end0
    exact ⟨rfl, ⟨_, HC3.out, HO3.out⟩, HK3.out⟩

set_option maxRecDepth 100000 in
set_option maxHeartbeats 4000000 in
theorem pgoneS_any (l : List Sq) (a : Option Addr) (c cb : Nat) (w0 w : World) (hl : l.length ≤ 900000) (hlc : l.length ≤ c) (hw : Below w0.heap.size w0 w) (hcb0 : w0.heap.size ≤ cb) (hcb : Blk w cb [.slice none 0 0] 82) (hc : CellsAt w0 a (l.flatMap sqc)) (hv : PlIn l 131072 0 0 false) :
    Calls Try.prog 62 #[.slice a l.length c, pstv ⟨Sq.zero, 0, 0, 131072, 0, 0⟩, .int .i64 1, .func (.func 63) #[] #[.pointer (some ⟨cb, 0, none⟩)]] w fun e w' => e = .returned (.int .i64 (endOf 0 l)) ∧
      (∃ v, Blk w' cb [v] 82 ∧ w'.ownsRow w.heap.size 86 8 v l.length ((psts 131072 0 0 l).flatMap pstc)) ∧ KeepLow w.heap.size (some cb) w w' := by
  have HR := hid prules_any
  have HX0 := hid (Blk.new w (pstc ⟨Sq.zero, 0, 0, 131072, 0, 0⟩) 86)
  have HB0 := hid (below_new w (.cells (pstc ⟨Sq.zero, 0, 0, 131072, 0, 0⟩).toArray 86))
  have HM1 := hid prule1_any
  have HE := hid pend_any
  have HMu := hid pmust_any
  have HF := hid pstep1_any
  have HC := hid hc
  have HV := hid hv
  have HL := hid hl
  have HW := hid hw
  have HD0 := hid hcb
  have hcl := hcb.lt
  unfold pstc Sq.zero at HX0 HB0
  unfold pstv at HM1 HE HMu HF ⊢
  unfold Sq.zero
  dsimp only at HX0 HB0 ⊢
  clear hc hv hl hw hcb
  go_enter Try.func62, Try.ntmps62
  go_wp2_with fail
  refine (HR.out _).mono ?_
  rintro e w1 ⟨rfl, hb1⟩
  have HX1 := hid (HX0.out.below hb1 HX0.out.lt)
  have HB1 := hid (HB0.out.trans (hb1.mono HB0.out.size))
  clear hb1 HX0 HB0
  go_wp2_with fail
  have hbn := below_new w1 (.cells #[.func (.func 86) #[] #[], .func (.func 87) #[] #[]] 140)
  have HX2 := hid (HX1.out.below hbn HX1.out.lt)
  have HB2 := hid (HB1.out.trans (hbn.mono HB1.out.size))
  have HA2 := hid (Blk.new w1 [.func (.func 86) #[] #[], .func (.func 87) #[] #[]] 140)
  have hA9 : w.heap.size < w1.heap.size := HX1.out.lt
  clear hbn HX1 HB1
  have hA2 := HA2.out.lt
  generalize w1.alloc (.cells #[.func (.func 86) #[] #[], .func (.func 87) #[] #[]] 140) = w2 at *
  generalize w1.heap.size = A9 at *
  have HD2 := hid (HD0.out.below HB2.out hcl)
  have hB2 : w.heap.size ≤ w2.heap.size := HB2.out.size
  clear HD0
  go_loopg [10] l.length (fun g t wr => ∃ (pre rest : List Sq) (a' : Option Addr) (c' : Nat) (s0 : Sq) (v : Value), Hid (l = pre ++ rest ∧ CellsAt w0 a' (rest.flatMap sqc) ∧ rest.length ≤ c') ∧ rest.length = g ∧ t = .slice a' rest.length c' ∧ Blk wr w.heap.size (pstc ⟨s0, pre.length, endOf 0 pre, 131072, 0, 0⟩) 86 ∧ Blk wr A9 [.func (.func 86) #[] #[], .func (.func 87) #[] #[]] 140 ∧ Blk wr cb [v] 82 ∧ wr.ownsRow w2.heap.size 86 8 v pre.length ((psts 131072 0 0 pre).flatMap pstc) ∧ w2.heap.size ≤ wr.heap.size ∧ KeepLow w.heap.size (some cb) w wr)
  case atStart => exact ⟨[], l, a, c, Sq.zero, _, hid ⟨rfl, HC.out, hlc⟩, rfl, rfl, HX2.out, HA2.out, HD2.out, World.ownsRow_nil _ _ _ _, Nat.le_refl _, KeepLow.of_below HB2.out⟩
  case round =>
    obtain ⟨pre, rest, a', c', s0, v, HI, hgl, rfl, hx, ha, hd, ho, hsz, hb⟩ := hrel
    have HGl := hid hgl
    clear hgl
    cases rest with
    | nil =>
      have hE : l = pre := by rw [HI.out.1, List.append_nil]
      subst hE
      have c4 := hx.cell (k := 4) rfl
      have HB := hid hb
      have HD := hid hd
      have HO := hid (own_le ho hB2)
      clear hx ha hb hd ho
      dsimp only at c4
      go_wp2
      go_ret
      exact ⟨rfl, ⟨_, HD.out, HO.out⟩, HB.out⟩
    | cons s rest =>
      obtain ⟨lit, len, off⟩ := s
      have hcc := HI.out.2.1
      have hle := HI.out.2.2
      obtain ⟨bl, of', rfl, hbl, y0⟩ := hcc 0 (.int .i64 lit) rfl
      obtain ⟨_, _, e, _, y1⟩ := hcc 1 (.int .i64 len) rfl
      cases e
      obtain ⟨_, _, e, _, y2⟩ := hcc 2 (.int .i64 off) rfl
      cases e
      rw [Nat.add_zero] at y0
      have hb0 : Below w0.heap.size w0 wr := HW.out.trans (hb.below HW.out.size hcb0)
      replace y0 := (hb0.cell (p := ⟨bl, of', none⟩) hbl).trans y0
      replace y1 := (hb0.cell (p := ⟨bl, of' + 1, none⟩) hbl).trans y1
      replace y2 := (hb0.cell (p := ⟨bl, of' + 2, none⟩) hbl).trans y2
      have HIn := hid (HV.out pre ⟨lit, len, off⟩ rest HI.out.1).1
      have hL2 : l = (pre ++ [(⟨lit, len, off⟩ : Sq)]) ++ rest := by rw [HI.out.1, List.append_assoc]; rfl
      have hpl : pre.length + rest.length + 1 ≤ 900000 := by
        have h1 := HL.out
        rw [hL2] at h1
        simp only [List.length_append, List.length_cons, List.length_nil] at h1
        omega
      have HC2 := hid (show CellsAt w0 (some ⟨bl, of' + 3, none⟩) (rest.flatMap sqc) from (fun j u hu => by
        obtain ⟨b2, o2, e1, e2, e3⟩ := hcc (3 + j) u (by
          show ([_, _, _] ++ rest.flatMap sqc)[3 + j]? = some u
          rw [List.getElem?_append_right (by simp)]
          simpa using hu)
        simp only [Option.some.injEq, Addr.mk.injEq, and_true] at e1
        obtain ⟨rfl, rfl⟩ := e1
        exact ⟨bl, of' + 3, rfl, e2, by rw [Nat.add_assoc]; exact e3⟩))
      have HL2 := hid hL2
      have HPl := hid hpl
      have HX3 := hid (show Blk (((wr.setCell ⟨w.heap.size, 0, none⟩ (.int .i64 lit)).setCell ⟨w.heap.size, 1, none⟩ (.int .i64 len)).setCell ⟨w.heap.size, 2, none⟩ (.int .i64 off)) w.heap.size (pstc ⟨⟨lit, len, off⟩, pre.length, endOf 0 pre, 131072, 0, 0⟩) 86 from pst_set w.heap.size 86 s0 ⟨lit, len, off⟩ _ _ _ _ _ wr hx)
      have hne : w.heap.size ≠ A9 := by omega
      have hne2 : w.heap.size ≠ cb := by omega
      have HNo := hid (fun (b : Nat) (hb : b < w2.heap.size) (W : World) (v : Value) (n : Nat) (xs : List Value) (h : W.ownsRow w2.heap.size 86 8 v n xs) => (fun e => by have := (h.lt _ e).1; omega : v.ownBlock ≠ some b))
      have hw2 : w.heap.size < w2.heap.size := by omega
      have HO3 := hid (ownsRow_setCell_other (ownsRow_setCell_other (ownsRow_setCell_other ho (a := ⟨w.heap.size, 0, none⟩) (HNo.out _ hw2 _ _ _ _ ho) (.int .i64 lit)) (a := ⟨w.heap.size, 1, none⟩) (HNo.out _ hw2 _ _ _ _ ho) (.int .i64 len)) (a := ⟨w.heap.size, 2, none⟩) (HNo.out _ hw2 _ _ _ _ ho) (.int .i64 off))
      have HA3 := hid (((ha.other (a := ⟨w.heap.size, 0, none⟩) (.int .i64 lit) hne).other (a := ⟨w.heap.size, 1, none⟩) (.int .i64 len) hne).other (a := ⟨w.heap.size, 2, none⟩) (.int .i64 off) hne)
      have HD3 := hid (((hd.other (a := ⟨w.heap.size, 0, none⟩) (.int .i64 lit) hne2).other (a := ⟨w.heap.size, 1, none⟩) (.int .i64 len) hne2).other (a := ⟨w.heap.size, 2, none⟩) (.int .i64 off) hne2)
      have HB3 := hid (((hb.set ⟨w.heap.size, 0, none⟩ (.int .i64 lit) (.inl (Nat.le_refl _))).set ⟨w.heap.size, 1, none⟩ (.int .i64 len) (.inl (Nat.le_refl _))).set ⟨w.heap.size, 2, none⟩ (.int .i64 off) (.inl (Nat.le_refl _)))
      have HS3 := hid (show w2.heap.size ≤ (((wr.setCell ⟨w.heap.size, 0, none⟩ (.int .i64 lit)).setCell ⟨w.heap.size, 1, none⟩ (.int .i64 len)).setCell ⟨w.heap.size, 2, none⟩ (.int .i64 off)).heap.size from by simpa using hsz)
      have c0 := hx.cell (k := 0) rfl
      have c1 := hx.cell (k := 1) rfl
      have c2 := hx.cell (k := 2) rfl
      have z0 := hx.frozen 0
      have z1 := hx.frozen 1
      have z2 := hx.frozen 2
      simp only [List.length_cons] at hle ⊢
      have hcI : ((rest.length : Int) + 1) ≤ (c' : Int) := by omega
      have hc1 : rest.length + 1 ≤ c' := hle
      have hlI : (0 : Int) < ((rest.length + 1 : Nat) : Int) := by omega
      have hlI2 : (1 : Int) ≤ ((rest.length + 1 : Nat) : Int) := by omega
      clear hcc hx ha hb hd ho hb0 hL2 hpl HI hle hsz
      go_wp2_with fail
      generalize ((wr.setCell ⟨w.heap.size, 0, none⟩ (.int .i64 lit)).setCell ⟨w.heap.size, 1, none⟩ (.int .i64 len)).setCell ⟨w.heap.size, 2, none⟩ (.int .i64 off) = w3 at *
      clear y0 y1 y2 c0 c1 c2 z0 z1 z2
      refine wp_loop_rounds 2 ?_
      rw [rounds_succ]
      have c0 := HX3.out.cell (k := 0) rfl
      have c1 := HX3.out.cell (k := 1) rfl
      have c2 := HX3.out.cell (k := 2) rfl
      have c3 := HX3.out.cell (k := 3) rfl
      have c4 := HX3.out.cell (k := 4) rfl
      have c5 := HX3.out.cell (k := 5) rfl
      have c6 := HX3.out.cell (k := 6) rfl
      have c7 := HX3.out.cell (k := 7) rfl
      have k0 := HA3.out.cell (k := 0) rfl
      dsimp only at c0 c1 c2 c3 c4 c5 c6 c7
      go_wp2_with fail
      have e0 := fun V : LowOf w3.heap.size w3 => V.cell c0 HX3.out.lt
      have e1 := fun V : LowOf w3.heap.size w3 => V.cell c1 HX3.out.lt
      have e2 := fun V : LowOf w3.heap.size w3 => V.cell c2 HX3.out.lt
      have e3 := fun V : LowOf w3.heap.size w3 => V.cell c3 HX3.out.lt
      have e4 := fun V : LowOf w3.heap.size w3 => V.cell c4 HX3.out.lt
      have e5 := fun V : LowOf w3.heap.size w3 => V.cell c5 HX3.out.lt
      have e6 := fun V : LowOf w3.heap.size w3 => V.cell c6 HX3.out.lt
      have e7 := fun V : LowOf w3.heap.size w3 => V.cell c7 HX3.out.lt
      have HV1 := hid (fun V : LowOf w3.heap.size w3 => Calls.low_of V (Nat.le_refl _) (HM1.out _ V.W HIn.out))
      have HV2 := hid (fun V : LowOf w3.heap.size w3 => Calls.low_of V (Nat.le_refl _) (HMu.out ⟨⟨lit, len, off⟩, pre.length, endOf 0 pre, 131072, 0, 0⟩ V.W))
      dsimp only at HV1 HV2
      clear c0 c1 c2 c3 c4 c5 c6 c7
      clear k0
      refine wp_region_low w3.heap.size (by kernel_rfl) (by kernel_rfl) ?_
      repeat (go_big_quiet_step (first | with_reducible exact HV1.out _ | with_reducible exact HV2.out _))
      refine wpQuiet_nil ?_
      rintro _ ⟨V, rfl⟩
      clear e0 e1 e2 e3 e4 e5 e6 e7
      clear HV1 HV2
      have HX5 := hid (HX3.out.below V.below HX3.out.lt)
      have HA5 := hid (HA3.out.below V.below HA3.out.lt)
      have HD5 := hid (HD3.out.below V.below HD3.out.lt)
      have HO5 := hid (own_low HO3.out V.below)
      have HS5 := hid (Nat.le_trans HS3.out V.below.size)
      have HB5 := hid (HB3.out.trans ((KeepLow.of_below V.below).mono (Nat.le_trans hB2 HS3.out)))
      generalize V.W = w5 at *
      clear V
      go_wp2_with fail
      rw [rounds_succ]
      have c0 := HX5.out.cell (k := 0) rfl
      have c1 := HX5.out.cell (k := 1) rfl
      have c2 := HX5.out.cell (k := 2) rfl
      have c3 := HX5.out.cell (k := 3) rfl
      have c4 := HX5.out.cell (k := 4) rfl
      have c5 := HX5.out.cell (k := 5) rfl
      have c6 := HX5.out.cell (k := 6) rfl
      have c7 := HX5.out.cell (k := 7) rfl
      dsimp only at c0 c1 c2 c3 c4 c5 c6 c7
      go_wp2_with fail
      refine (HF.out ⟨⟨lit, len, off⟩, pre.length, endOf 0 pre, 131072, 0, 0⟩ cb w2.heap.size pre.length v _ _ HD5.out HO5.out (by have := HPl.out; omega) HS5.out (by omega)).mono ?_
      rintro e w6 ⟨rfl, ⟨v6, hd6, ho6⟩, hk6⟩
      clear c0 c1 c2 c3 c4 c5 c6 c7
      have HX6 := hid (hk6.blk HX5.out hw2 (fun e => hne2 (by cases e; rfl)))
      have HA6 := hid (hk6.blk HA5.out (by omega) (fun e => by cases e; omega))
      have HD6 := hid hd6
      have HO6 := hid ho6
      have HS6 := hid (Nat.le_trans HS5.out hk6.size)
      have HB6 := hid (HB5.out.trans (hk6.mono hB2))
      clear hd6 ho6 hk6
      have c0 := HX6.out.cell (k := 0) rfl
      have c1 := HX6.out.cell (k := 1) rfl
      have c2 := HX6.out.cell (k := 2) rfl
      have c3 := HX6.out.cell (k := 3) rfl
      have c4 := HX6.out.cell (k := 4) rfl
      have c5 := HX6.out.cell (k := 5) rfl
      have c6 := HX6.out.cell (k := 6) rfl
      have c7 := HX6.out.cell (k := 7) rfl
      dsimp only at c0 c1 c2 c3 c4 c5 c6 c7
      go_wp2_with fail
      refine (HE.out _ _ HIn.out).mono ?_
      rintro e w7 ⟨rfl, hb7⟩
      dsimp only
      clear c0 c1 c2 c3 c4 c5 c6 c7
      have HX7 := hid (HX6.out.below hb7 HX6.out.lt)
      have HA7 := hid (HA6.out.below hb7 HA6.out.lt)
      have HD7 := hid (HD6.out.below hb7 HD6.out.lt)
      have HO7 := hid (own_low HO6.out hb7)
      have HS7 := hid (Nat.le_trans HS6.out hb7.size)
      have HB7 := hid (HB6.out.trans ((KeepLow.of_below hb7).mono (Nat.le_trans hB2 HS6.out)))
      have c0 := HX7.out.cell (k := 0) rfl
      have c1 := HX7.out.cell (k := 1) rfl
      have c2 := HX7.out.cell (k := 2) rfl
      have c3 := HX7.out.cell (k := 3) rfl
      have c4 := HX7.out.cell (k := 4) rfl
      have c5 := HX7.out.cell (k := 5) rfl
      have c6 := HX7.out.cell (k := 6) rfl
      have c7 := HX7.out.cell (k := 7) rfl
      dsimp only at c0 c1 c2 c3 c4 c5 c6 c7
      clear hb7
      have z3 := HX7.out.frozen 3
      have z4 := HX7.out.frozen 4
      have HX9 := hid ((HX7.out.set 4 (.int .i64 (endOf 0 pre + lit + len))).set 3 (.int .i64 ((pre.length : Int) + 1)))
      have HA9 := hid ((HA7.out.other (a := ⟨w.heap.size, 4, none⟩) (.int .i64 (endOf 0 pre + lit + len)) hne).other (a := ⟨w.heap.size, 3, none⟩) (.int .i64 ((pre.length : Int) + 1)) hne)
      have HD9 := hid ((HD7.out.other (a := ⟨w.heap.size, 4, none⟩) (.int .i64 (endOf 0 pre + lit + len)) hne2).other (a := ⟨w.heap.size, 3, none⟩) (.int .i64 ((pre.length : Int) + 1)) hne2)
      have HO9 := hid (ownsRow_setCell_other (ownsRow_setCell_other HO7.out (a := ⟨w.heap.size, 4, none⟩) (HNo.out _ hw2 _ _ _ _ HO7.out) (.int .i64 (endOf 0 pre + lit + len))) (a := ⟨w.heap.size, 3, none⟩) (HNo.out _ hw2 _ _ _ _ HO7.out) (.int .i64 ((pre.length : Int) + 1)))
      have HS9 := hid (show w2.heap.size ≤ ((w7.setCell ⟨w.heap.size, 4, none⟩ (.int .i64 (endOf 0 pre + lit + len))).setCell ⟨w.heap.size, 3, none⟩ (.int .i64 ((pre.length : Int) + 1))).heap.size from by simpa using HS7.out)
      have HB9 := hid ((HB7.out.set ⟨w.heap.size, 4, none⟩ (.int .i64 (endOf 0 pre + lit + len)) (.inl (Nat.le_refl _))).set ⟨w.heap.size, 3, none⟩ (.int .i64 ((pre.length : Int) + 1)) (.inl (Nat.le_refl _)))
      have hplI : (pre.length : Int) + 1 ≤ 1000000 := by have := HPl.out; omega
      have HFin := hid (show Blk ((w7.setCell ⟨w.heap.size, 4, none⟩ (.int .i64 (endOf 0 pre + lit + len))).setCell ⟨w.heap.size, 3, none⟩ (.int .i64 ((pre.length : Int) + 1))) w.heap.size (pstc ⟨⟨lit, len, off⟩, ((pre ++ [(⟨lit, len, off⟩ : Sq)]).length : Nat), endOf 0 (pre ++ [(⟨lit, len, off⟩ : Sq)]), 131072, 0, 0⟩) 86 ∧ ((w7.setCell ⟨w.heap.size, 4, none⟩ (.int .i64 (endOf 0 pre + lit + len))).setCell ⟨w.heap.size, 3, none⟩ (.int .i64 ((pre.length : Int) + 1))).ownsRow w2.heap.size 86 8 v6 (pre ++ [(⟨lit, len, off⟩ : Sq)]).length ((psts 131072 0 0 (pre ++ [(⟨lit, len, off⟩ : Sq)])).flatMap pstc) from by
        rw [endOf_snoc1, List.length_append, psts_snoc, List.flatMap_append]
        refine ⟨HX9.out, ?_⟩
        rw [List.flatMap_cons, List.flatMap_nil, List.append_nil]
        exact HO9.out)
      by_cases h1 : rest.length = 0
      · have hr : rest = [] := List.eq_nil_of_length_eq_zero h1
        subst hr
        go_wp2
        go_roundg 0
        case measure => have := HGl.out; simp only [List.length_cons] at this; omega
        case rel => exact ⟨pre ++ [(⟨lit, len, off⟩ : Sq)], [], some ⟨bl, of', none⟩, 0, ⟨lit, len, off⟩, v6, hid ⟨HL2.out, (fun j u hu => by simp at hu), Nat.le_refl _⟩, rfl, rfl, HFin.out.1, HA9.out, HD9.out, HFin.out.2, HS9.out, HB9.out⟩
      · go_wp2
        go_roundg rest.length
        case measure => have := HGl.out; simp only [List.length_cons] at this; omega
        case rel => exact ⟨pre ++ [(⟨lit, len, off⟩ : Sq)], rest, some ⟨bl, of' + 3, none⟩, rest.length, ⟨lit, len, off⟩, v6, hid ⟨HL2.out, HC2.out, Nat.le_refl _⟩, rfl, rfl, HFin.out.1, HA9.out, HD9.out, HFin.out.2, HS9.out, HB9.out⟩
end Go.Proofs.Ytngphgdoolcpcaa
