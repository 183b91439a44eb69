/-
  The law ChainsMore: a larger window, a larger depth, or more history never shortens the match found. No condition.
-/
import Derived.Test.YtnmicfheekpnfaaCk
namespace Go.Proofs.Ytnmicfheekpnfaa
open Go.RowKit Go.Port
set_option maxRecDepth 100000 in
theorem open_pair8 {H : Type} {enc : TypeId × Value → H} {W : World} {v : Value} {d : DataW H} {ps : List MemPlace} {b0 : Nat}
    (hv : Value.okWide Try.prog W .any b0 46 v) (hd : DataW.Trod enc Try.prog W 0 (fun _ => true) true 46 v d ps) : ∃ x y : Int, v = .agg #[.int .u8 x, .int .u8 y] ∧ (0 ≤ x ∧ x ≤ 255) ∧ (0 ≤ y ∧ y ≤ 255) := by
  have ht := Try.underlying46
  have hce : Try.prog.cellsOf 46 = 2 := by kernel_rfl
  have hci : Try.prog.cellsOf 5 = 1 := by kernel_rfl
  simp only [Value.okWide, ht] at hv
  obtain ⟨cs, rfl, hsz, _⟩ := hv
  obtain ⟨m, hf⟩ := hd
  replace hf : DataW.trod enc Try.prog W 0 (fun _ => true) true m 46 cs.toList = some (d, ps) := hf
  obtain ⟨xs, n, _, _, hl, hxl, hg⟩ := DataW.trod_array ht hf
  rw [hce] at hl
  obtain ⟨l⟩ := cs
  match l, hl with
  | [u0, u1], _ =>
    have y0 := hg 0 (by decide)
    have y1 := hg 1 (by decide)
    obtain ⟨w0, hw0⟩ : ∃ x0, xs[0]? = some x0 := ⟨_, List.getElem?_eq_getElem (by rw [hxl]; decide)⟩
    obtain ⟨w1, hw1⟩ : ∃ x0, xs[1]? = some x0 := ⟨_, List.getElem?_eq_getElem (by rw [hxl]; decide)⟩
    rw [hw0, hci] at y0
    rw [hw1, hci] at y1
    have z0 : DataW.trod enc Try.prog W 0 (fun _ => true) true n 5 [u0] = some w0 := by simpa using y0
    have z1 : DataW.trod enc Try.prog W 0 (fun _ => true) true n 5 [u1] = some w1 := by simpa using y1
    obtain ⟨x0, hx0, _, f0⟩ := DataW.trod_int Try.underlying5 z0
    obtain ⟨x1, hx1, _, f1⟩ := DataW.trod_int Try.underlying5 z1
    simp only [List.cons.injEq, and_true] at hx0 hx1
    subst hx0 hx1
    exact ⟨x0, x1, rfl, bounds_u8 f0, bounds_u8 f1⟩

set_option maxRecDepth 100000 in
set_option maxHeartbeats 8000000 in
theorem ChainsMore_walk (w : World) (v1 : Value) (A : List UInt8) (h1 : Rs w 1 v1 A.length (A.map bv)) (v2 : Value) (D : List UInt8) (h2 : Rs w 1 v2 D.length (D.map bv)) (W dep p : Int) (v5 : Value) (M : List UInt8) (h5 : Rs w 1 v5 M.length (M.map bv)) (x y : Int) (hx : 0 ≤ x ∧ x ≤ 255) (hy : 0 ≤ y ∧ y ≤ 255) :
    Calls Try.prog 7 #[v1, v2, .int .i64 W, .int .i64 dep, .int .i64 p, v5, .agg #[.int .u8 x, .int .u8 y]] w (RetV w (.bool true)) := by
  have HW := hid works_any
  obtain ⟨_, a1, k1, rfl, hk1, _, hn1, hcell1⟩ := h1
  obtain ⟨_, a2, k2, rfl, hk2, _, hn2, hcell2⟩ := h2
  obtain ⟨_, a5, k5, rfl, hk5, _, hn5, hcell5⟩ := h5
  have HX0 := hid (Blk.new w [.int .u8 x, .int .u8 y] 46)
  have HB0 := hid (below_new w (.cells #[.int .u8 x, .int .u8 y] 46))
  by_cases hbad : 200 < (A.length : Int) ∨ (¬ 200 < (A.length : Int) ∧ 200 < (D.length : Int)) ∨ (¬ 200 < (A.length : Int) ∧ ¬ 200 < (D.length : Int) ∧ 100 < (M.length : Int)) ∨
      (¬ 200 < (A.length : Int) ∧ ¬ 200 < (D.length : Int) ∧ ¬ 100 < (M.length : Int) ∧ W < 1) ∨ (¬ 200 < (A.length : Int) ∧ ¬ 200 < (D.length : Int) ∧ ¬ 100 < (M.length : Int) ∧ ¬ W < 1 ∧ 500 < W) ∨
      (¬ 200 < (A.length : Int) ∧ ¬ 200 < (D.length : Int) ∧ ¬ 100 < (M.length : Int) ∧ ¬ W < 1 ∧ ¬ 500 < W ∧ dep < 1) ∨ (¬ 200 < (A.length : Int) ∧ ¬ 200 < (D.length : Int) ∧ ¬ 100 < (M.length : Int) ∧ ¬ W < 1 ∧ ¬ 500 < W ∧ ¬ dep < 1 ∧ 500 < dep)
  · clear hk1 hk2 hk5 hn1 hn2 hn5 hcell1 hcell2 hcell5 HX0 hx hy
    rcases hbad with g1 | ⟨g1, g2⟩ | ⟨g1, g2, g3⟩ | ⟨g1, g2, g3, g4⟩ | ⟨g1, g2, g3, g4, g5⟩ | ⟨g1, g2, g3, g4, g5, g6⟩ | ⟨g1, g2, g3, g4, g5, g6, g7⟩
    all_goals
      go_enter Try.func7, Try.ntmps7
      go_wp2_with (go_at_call 10; refine (HW.out _).mono ?_; rintro e w' ⟨rfl, hb⟩)
      go_ret
      exact ⟨rfl, HB0.out.trans (hb.mono HB0.out.size)⟩
  have hg : ¬ 200 < (A.length : Int) ∧ ¬ 200 < (D.length : Int) ∧ ¬ 100 < (M.length : Int) ∧ ¬ W < 1 ∧ ¬ 500 < W ∧ ¬ dep < 1 ∧ ¬ 500 < dep := by omega
  obtain ⟨g1, g2, g3, g4, g5, g6, g7⟩ := hg
  have HNw := hid (fun W' dep' Wd (hb : Below w.heap.size w Wd) (q1 : 1 ≤ W' ∧ W' ≤ 1000) (q2 : 1 ≤ dep' ∧ dep' ≤ 1000) => cnew_ok a1 a2 k1 k2 A D W' dep' Wd (by omega) (by omega) hk1 hk2 hn1 hn2 (CellsAt.low hcell1 hb) (CellsAt.low hcell2 hb) q1.1 (by omega) q2.1 (by omega))
  have HN3 := hid (fun a c Wd (hb : Below w.heap.size w Wd) (q1 : (M ++ A).length ≤ c) (q2 : a = none → c = 0) (q3 : CellsAt Wd a ((M ++ A).map bv)) => cnew_ok a a2 c k2 (M ++ A) D W dep Wd (by rw [List.length_append]; omega) (by omega) q1 hk2 q2 hn2 q3 (CellsAt.low hcell2 hb) (by omega) (by omega) (by omega) (by omega))
  rw [List.append_assoc] at HN3
  have HF1 := hid (findS_wider (B := A ++ D) (A := A.length) (W := W) (W' := W + x) (D := dep) (D' := dep) (p := p) (by omega) (Int.le_refl _))
  have HF2 := hid (findS_wider (B := A ++ D) (A := A.length) (W := W) (W' := W) (D := dep) (D' := dep + y) (p := p) (Int.le_refl _) (by omega))
  have HF3 := hid (findS_more (M := M) (B := A ++ D) (A := A.length) (W := W) (D := dep) (p := p))
  rw [← List.length_append] at HF3
  have HC1 := hid (show CellsAt w a1 (A.map bv) from hcell1)
  have HC5 := hid (show CellsAt w a5 (M.map bv) from hcell5)
  have HHA := hid (And.intro hk1 hn1)
  have HHM := hid (And.intro hk5 hn5)
  have hw1 : IntKind.i64.wrap x = x := by rw [IntKind.wrap_i64]; omega
  have hw2 : IntKind.i64.wrap y = y := by rw [IntKind.wrap_i64]; omega
  have hw3 : IntKind.i64.wrap (W + x) = W + x := by rw [IntKind.wrap_i64]; omega
  have hw4 : IntKind.i64.wrap (dep + y) = dep + y := by rw [IntKind.wrap_i64]; omega
  have HG := hid (show (1 ≤ W ∧ W ≤ 1000) ∧ (1 ≤ dep ∧ dep ≤ 1000) ∧ (1 ≤ W + x ∧ W + x ≤ 1000) ∧ (1 ≤ dep + y ∧ dep + y ≤ 1000) from by omega)
  have HLn := hid (show A.length ≤ 200 ∧ M.length ≤ 100 from by omega)
  clear hk1 hk2 hk5 hn1 hn2 hn5 hcell1 hcell2 hcell5 hbad hx hy
  go_enter Try.func7, Try.ntmps7
  go_wp2_with fail
  clear g1 g2 g3 g4 g5 g6 g7
  refine (HNw.out W dep _ HB0.out HG.out.1 HG.out.2.1).mono ?_
  rintro e w1 ⟨F1, rfl, hF, hb⟩
  have HA1 := hid hF.at
  have HB1 := hid (HB0.out.trans (hb.mono HB0.out.size))
  have HX1 := hid (HX0.out.below hb HX0.out.lt)
  clear hF hb HB0 HX0
  have p0 := HX1.out.cell (k := 0) rfl
  go_wp2_with fail
  refine (HNw.out (W + x) dep _ HB1.out HG.out.2.2.1 HG.out.2.1).mono ?_
  rintro e w2 ⟨F2, rfl, hF, hb⟩
  have HA2 := hid (HA1.out.low hb)
  have HD2 := hid hF.at
  have HB2 := hid (HB1.out.trans (hb.mono HB1.out.size))
  have HX2 := hid (HX1.out.below hb HX1.out.lt)
  clear hF hb HB1 HX1 HA1 p0
  have p1 := HX2.out.cell (k := 1) rfl
  go_wp2_with fail
  refine (HNw.out W (dep + y) _ HB2.out HG.out.1 HG.out.2.2.2).mono ?_
  rintro e w3 ⟨F3, rfl, hF, hb⟩
  have HA3 := hid (HA2.out.low hb)
  have HD3 := hid (HD2.out.low hb)
  have HE3 := hid hF.at
  have HB3 := hid (HB2.out.trans (hb.mono HB2.out.size))
  clear hF hb HB2 HX2 HA2 HD2 p1 HNw
  go_wp2_with (at_builtin; refine Hid.out ?_)
  refine hid ?_
  have HE0 := hid (own_emptyK (w := w3) (e := 5) 1 (Nat.le_refl _))
  have HB4 := hid ((Below.refl w3.heap.size w3).alloc (Nat.le_refl _) (.cells #[] 5))
  have hs0 : w3.heap.size ≤ (w3.alloc (.cells #[] 5)).heap.size := by simp
  generalize w3.alloc (.cells #[] 5) = w4 at *
  refine wpList_appendsK rfl _ _ 22 rfl 5 _ 1 1 Try.underlying22 Try.info_byte rfl (by decide) (by decide) w4 w3.heap.size _ 0 M.length k5 a5 [] (M.map bv) (by simp) ?hu rfl rfl HHM.out.1 HHM.out.2 ((HC5.out.low HB3.out).low HB4.out) (by exact HE0.out) ?hn hs0 ?hk
  case hu =>
    intro u hu
    obtain ⟨x, _, rfl⟩ := List.mem_map.1 hu
    rfl
  case hn => have := HLn.out; omega
  case hk =>
    intro v1 w5 hown1 hg1
    rw [List.nil_append, Nat.zero_add] at hown1
    have hbg1 := below_grown HE0.out hg1 hs0
    have HO1 := hid hown1
    have HB5 := hid (HB4.out.trans hbg1)
    have hs2 : w3.heap.size ≤ w5.heap.size := Nat.le_trans hs0 hbg1.size
    clear hown1 hg1 hbg1 HE0 HB4 hs0
    obtain ⟨b1, d1, rfl⟩ := own_slice HO1.out
    go_wp2_with (at_builtin; refine Hid.out ?_)
    refine hid ?_
    refine wpList_appendsK rfl _ _ 22 rfl 5 _ 1 1 Try.underlying22 Try.info_byte rfl (by decide) (by decide) w5 w3.heap.size _ M.length A.length k1 a1 (M.map bv) (A.map bv) (by simp) ?hu2 rfl rfl HHA.out.1 HHA.out.2 ((HC1.out.low HB3.out).low HB5.out) (by exact HO1.out) ?hn2 hs2 ?hk2
    case hu2 =>
      intro u hu
      obtain ⟨x, _, rfl⟩ := List.mem_map.1 hu
      rfl
    case hn2 => have := HLn.out; omega
    case hk2 =>
      intro v2 w6 hown2 hg2
      rw [← List.length_append, ← List.map_append] at hown2
      have hbg2 := below_grown HO1.out hg2 hs2
      have hB6 := HB5.out.trans hbg2
      have HB6 := hid (HB3.out.trans (hB6.mono HB3.out.size))
      have HA6 := hid (HA3.out.low hB6)
      have HD6 := hid (HD3.out.low hB6)
      have HE6 := hid (HE3.out.low hB6)
      obtain ⟨b2, d2, rfl⟩ := own_slice hown2
      have HK6 := hid ((Sl.of_owns hown2).cells' rfl)
      have HKc := hid ((Sl.of_owns hown2).cap rfl)
      clear hown2 hg2 hbg2 hB6 HA3 HD3 HE3 HB5 HO1 hs2 HB3 HC1 HC5 HHA HHM
      generalize hma : M ++ A = MA at *
      clear hma
      go_wp2_with fail
      refine (HN3.out b2 d2 w6 HB6.out HKc.out.1 HKc.out.2 HK6.out).mono ?_
      rintro e w7 ⟨F4, rfl, hF, hb⟩
      have HA7 := hid (HA6.out.low hb)
      have HD7 := hid (HD6.out.low hb)
      have HE7 := hid (HE6.out.low hb)
      have HG7 := hid hF.at
      have HB7 := hid (HB6.out.trans (hb.mono HB6.out.size))
      clear hF hb HA6 HD6 HE6 HB6 HK6 HKc HN3
      have HP1 := hid (fun Wd h => cfind_any (A ++ D) A.length W dep F1 p Wd h)
      have HP2 := hid (fun Wd h => cfind_any (A ++ D) A.length (W + x) dep F2 p Wd h)
      have HP3 := hid (fun Wd h => cfind_any (A ++ D) A.length W (dep + y) F3 p Wd h)
      have HP4 := hid (fun Wd h => cfind_any (M ++ (A ++ D)) MA.length W dep F4 p Wd h)
      generalize (findS (A ++ D) A.length W dep p).isSome = i1 at *
      obtain ⟨s1, hs1⟩ : ∃ s, (findS (A ++ D) A.length W dep p).getD Sq.zero = s := ⟨_, rfl⟩
      rw [hs1] at HP1
      generalize (findS (A ++ D) A.length (W + x) dep p).isSome = i2 at *
      obtain ⟨s2, hs2⟩ : ∃ s, (findS (A ++ D) A.length (W + x) dep p).getD Sq.zero = s := ⟨_, rfl⟩
      rw [hs2] at HP2
      generalize (findS (A ++ D) A.length W (dep + y) p).isSome = i3 at *
      obtain ⟨s3, hs3⟩ : ∃ s, (findS (A ++ D) A.length W (dep + y) p).getD Sq.zero = s := ⟨_, rfl⟩
      rw [hs3] at HP3
      generalize (findS (M ++ (A ++ D)) MA.length W dep p).isSome = i4 at *
      obtain ⟨s4, hs4⟩ : ∃ s, (findS (M ++ (A ++ D)) MA.length W dep p).getD Sq.zero = s := ⟨_, rfl⟩
      rw [hs4] at HP4
      rw [hs1, hs2] at HF1
      rw [hs1, hs3] at HF2
      rw [hs1, hs4] at HF3
      clear hs1 hs2 hs3 hs4
      obtain ⟨l1, n1, o1⟩ := s1
      obtain ⟨l2, n2, o2⟩ := s2
      obtain ⟨l3, n3, o3⟩ := s3
      obtain ⟨l4, n4, o4⟩ := s4
      unfold sqv at HP1 HP2 HP3 HP4
      dsimp only at HP1 HP2 HP3 HP4 HF1 HF2 HF3
      go_wp2_with (first | (go_at_call 20; refine (num_any _ _).mono ?_; rintro e w' ⟨rfl, rfl⟩))
      refine (HP1.out _ HA7.out).mono ?_
      rintro e u7 ⟨rfl, hb⟩
      have hb := hb.alloc hb.size (.cells #[.int .i64 l1, .int .i64 n1, .int .i64 o1] 30)
      have HS1_8 := hid (Blk.new u7 [.int .i64 l1, .int .i64 n1, .int .i64 o1] 30)
      have HD8 := hid (HD7.out.low hb)
      have HE8 := hid (HE7.out.low hb)
      have HG8 := hid (HG7.out.low hb)
      have HB8 := hid (HB7.out.trans (hb.mono HB7.out.size))
      clear hb HB7 HA7 HD7 HE7 HG7  HP1
      go_wp2_with fail
      refine (HP2.out _ HD8.out).mono ?_
      rintro e u8 ⟨rfl, hb⟩
      have hb := hb.alloc hb.size (.cells #[.int .i64 l2, .int .i64 n2, .int .i64 o2] 30)
      have HS2_9 := hid (Blk.new u8 [.int .i64 l2, .int .i64 n2, .int .i64 o2] 30)
      have HE9 := hid (HE8.out.low hb)
      have HG9 := hid (HG8.out.low hb)
      have HS1_9 := hid (HS1_8.out.below hb HS1_8.out.lt)
      have HB9 := hid (HB8.out.trans (hb.mono HB8.out.size))
      clear hb HB8 HD8 HE8 HG8 HS1_8 HP2
      go_wp2_with fail
      refine (HP3.out _ HE9.out).mono ?_
      rintro e u9 ⟨rfl, hb⟩
      have hb := hb.alloc hb.size (.cells #[.int .i64 l3, .int .i64 n3, .int .i64 o3] 30)
      have HS3_10 := hid (Blk.new u9 [.int .i64 l3, .int .i64 n3, .int .i64 o3] 30)
      have HG10 := hid (HG9.out.low hb)
      have HS1_10 := hid (HS1_9.out.below hb HS1_9.out.lt)
      have HS2_10 := hid (HS2_9.out.below hb HS2_9.out.lt)
      have HB10 := hid (HB9.out.trans (hb.mono HB9.out.size))
      clear hb HB9 HE9 HG9 HS1_9 HS2_9 HP3
      go_wp2_with fail
      refine (HP4.out _ HG10.out).mono ?_
      rintro e u10 ⟨rfl, hb⟩
      have hb := hb.alloc hb.size (.cells #[.int .i64 l4, .int .i64 n4, .int .i64 o4] 30)
      have HS4_11 := hid (Blk.new u10 [.int .i64 l4, .int .i64 n4, .int .i64 o4] 30)
      have HS1_11 := hid (HS1_10.out.below hb HS1_10.out.lt)
      have HS2_11 := hid (HS2_10.out.below hb HS2_10.out.lt)
      have HS3_11 := hid (HS3_10.out.below hb HS3_10.out.lt)
      have HB11 := hid (HB10.out.trans (hb.mono HB10.out.size))
      clear hb HB10 HG10 HS1_10 HS2_10 HS3_10 HP4
      have q1 := HS1_11.out.cell (k := 1) rfl
      have q2 := HS2_11.out.cell (k := 1) rfl
      have q3 := HS3_11.out.cell (k := 1) rfl
      have q4 := HS4_11.out.cell (k := 1) rfl
      have g1 := HF1.out
      have g2 := HF2.out
      have g3 := HF3.out
      go_wp2_with fail
      refine (HW.out _).mono ?_
      rintro e w9 ⟨rfl, hb⟩
      go_wp2
      go_ret
      exact ⟨rfl, HB11.out.trans (hb.mono HB11.out.size)⟩
end Go.Proofs.Ytnmicfheekpnfaa
namespace Go.Proofs.Ytnmicfheekpnfaa.LChainsMore
open Go.ChangeShapes Go.WideShapes Go.ChangeAt Go.RowKit Go.Port

set_option maxRecDepth 100000 in
theorem lifted (os : Os) (started : os.Started) (H : Type) (enc : TypeId × Value → H) :
    ReturnsInHanded {} Try.checked os 7 .any (Rows.chainsMoreSpec.pre6 enc Try.prog Try.f7 Rows.chainsMoreRow.domain false) (Rows.chainsMoreSpec.post enc Try.prog Try.f7 false true false false) := by
  refine returnsInHanded_of_change (C := Try.checked) Try.own started (by kernel_rfl) Try.func7
    (ChangeSpec.witness6 (enc := enc) (C := Try.checked) false ⟨#[], #[.slice none 0 0, .slice none 0 0, .int .i64 0, .int .i64 0, .int .i64 0, .slice none 0 0, .agg #[.int .u8 0, .int .u8 0]], []⟩ 8 (by kernel_rfl) (by kernel_rfl) (by kernel_rfl) (by kernel_rfl)) ?_
  intro W base args ds gs before hval0 hW hcnd _
  have hval : ∀ (j : Nat) t v, Try.f7.params[j]? = some t → args[j]? = some v → Value.okWide Try.prog W .any base t v := hval0
  have hW' := hW
  obtain ⟨p, q, hA0, hV, rfl, hfz, hnd⟩ := hW
  have hA : DataW.TrodAll enc Try.prog W 0 (fun _ => true) true Try.f7.params.toList args.toList ds p := hA0
  rw [Try.params7] at hA hval
  obtain ⟨v0, vs0, d0, ds0, p0, q0, hargs, rfl, rfl, h0, r0⟩ := trodAll_cons hA
  obtain ⟨v1, vs1, d1, ds1, p1, q1, rfl, rfl, rfl, h1, r1⟩ := trodAll_cons r0
  obtain ⟨v2, vs2, d2, ds2, p2, q2, rfl, rfl, rfl, h2, r2⟩ := trodAll_cons r1
  obtain ⟨v3, vs3, d3, ds3, p3, q3, rfl, rfl, rfl, h3, r3⟩ := trodAll_cons r2
  obtain ⟨v4, vs4, d4, ds4, p4, q4, rfl, rfl, rfl, h4, r4⟩ := trodAll_cons r3
  obtain ⟨v5, vs5, d5, ds5, p5, q5, rfl, rfl, rfl, h5, r5⟩ := trodAll_cons r4
  obtain ⟨v6, vs6, d6, ds6, p6, q6, rfl, rfl, rfl, h6, r6⟩ := trodAll_cons r5
  obtain ⟨rfl, rfl, rfl⟩ := trodAll_nil r6
  obtain rfl : args = #[v0, v1, v2, v3, v4, v5, v6] := by cases args; simp_all
  obtain ⟨rfl, rfl⟩ := trodVars_none hV
  obtain ⟨l0, hl0, wl0⟩ := open_rowV Try.underlying22 Try.underlying5 (by kernel_rfl) (hval 0 22 v0 rfl rfl) h0
  obtain ⟨bs0, hbs0, hn0⟩ := bytes_of wl0
  rw [hbs0, ← hn0] at hl0
  obtain ⟨l1, hl1, wl1⟩ := open_rowV Try.underlying22 Try.underlying5 (by kernel_rfl) (hval 1 22 v1 rfl rfl) h1
  obtain ⟨bs1, hbs1, hn1⟩ := bytes_of wl1
  rw [hbs1, ← hn1] at hl1
  obtain ⟨a2, rfl, rfl, rfl, w2⟩ := open_int Try.underlying3 (hval 2 3 v2 rfl rfl) h2
  obtain ⟨a3, rfl, rfl, rfl, w3⟩ := open_int Try.underlying3 (hval 3 3 v3 rfl rfl) h3
  obtain ⟨a4, rfl, rfl, rfl, w4⟩ := open_int Try.underlying3 (hval 4 3 v4 rfl rfl) h4
  obtain ⟨l5, hl5, wl5⟩ := open_rowV Try.underlying22 Try.underlying5 (by kernel_rfl) (hval 5 22 v5 rfl rfl) h5
  obtain ⟨bs5, hbs5, hn5⟩ := bytes_of wl5
  rw [hbs5, ← hn5] at hl5
  obtain ⟨x6, y6, rfl, wx6, wy6⟩ := open_pair8 (hval 6 46 v6 rfl rfl) h6
  clear hA0 hval0
  simp only [List.append_nil] at hW'
  refine (ChainsMore_walk W v0 bs0 hl0 v1 bs1 hl1 a2 a3 a4 v5 bs5 hl5 x6 y6 wx6 wy6).mono fun e W' ⟨he, hb⟩ => ?_
  subst he
  exact ⟨_, rfl, law_post Try.kids Try.full Try.underlying4 rfl rfl hW' (by rw [Try.params7]; decide) rfl rfl rfl hb⟩

theorem over : Rows.chainsMoreRow.holds Try.pinned (OpenSpec.ofChange Rows.chainsMoreSpec) :=
  OpenClaim.holds_of_wide 7 Try.f7 rfl rfl rfl rfl rfl rfl rfl ⟨rfl, rfl, rfl, rfl, rfl⟩ rfl rfl rfl rfl rfl (by kernel_rfl) Try.func7 (by kernel_rfl)
    (of_decide_eq_true (by kernel_rfl)) (by unfold Func.isWrapper; first | (rw [if_pos (by decide +kernel)]; kernel_rfl) | (rw [if_neg (by decide +kernel)]; exact ⟨rfl, rfl⟩))
    (fun os started H enc _ => lifted os started H enc)

/-- The statement. -/
theorem proved : Rows.ChainsMoreSaid :=
  over
end Go.Proofs.Ytnmicfheekpnfaa.LChainsMore
