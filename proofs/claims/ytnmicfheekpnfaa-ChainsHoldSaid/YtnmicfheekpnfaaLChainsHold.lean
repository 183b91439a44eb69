/-
  The law ChainsHold: the match found is a plan of the data from its position, has exactly that length, and no candidate gives a longer or equally long nearer one; queries do not affect each other. No condition.
-/
import Derived.Test.YtnmicfheekpnfaaCk
import Derived.Test.YtnmicfheekpnfaaVerC
import Derived.Test.YtnmicfheekpnfaaHoldPlain
import Derived.Test.YtnmicfheekpnfaaMatchBl
namespace Go.Proofs.Ytnmicfheekpnfaa
open Go.RowKit Go.Port

theorem CellsAt.take' {w : World} {b : Option Addr} {bs : List UInt8} (h : CellsAt w b (bs.map bv)) (n : Nat) : CellsAt w b ((bs.take n).map bv) := fun j u hu => h j u (by
  rw [List.getElem?_map, List.getElem?_take] at hu
  rw [List.getElem?_map]
  split at hu
  · exact hu
  · simp at hu)

set_option maxRecDepth 100000 in
set_option maxHeartbeats 16000000 in
theorem ChainsHold_walk (w : World) (v1 : Value) (A : List UInt8) (h1 : Rs w 1 v1 A.length (A.map bv)) (v2 : Value) (D : List UInt8) (h2 : Rs w 1 v2 D.length (D.map bv)) (W dep p other : Int) :
    Calls Try.prog 9 #[v1, v2, .int .i64 W, .int .i64 dep, .int .i64 p, .int .i64 other] w (RetV w (.bool true)) := by
  have HW := hid works_any
  obtain ⟨_, a1, k1, rfl, hk1, _, hn1, hcell1⟩ := h1
  obtain ⟨_, a2, k2, rfl, hk2, _, hn2, hcell2⟩ := h2
  by_cases hbad : 150 < (A.length : Int) ∨
      (¬ 150 < (A.length : Int) ∧ 150 < (D.length : Int)) ∨
      (¬ 150 < (A.length : Int) ∧ ¬ 150 < (D.length : Int) ∧ W < 1) ∨
      (¬ 150 < (A.length : Int) ∧ ¬ 150 < (D.length : Int) ∧ ¬ W < 1 ∧ 500 < W) ∨
      (¬ 150 < (A.length : Int) ∧ ¬ 150 < (D.length : Int) ∧ ¬ W < 1 ∧ ¬ 500 < W ∧ dep < 1) ∨
      (¬ 150 < (A.length : Int) ∧ ¬ 150 < (D.length : Int) ∧ ¬ W < 1 ∧ ¬ 500 < W ∧ ¬ dep < 1 ∧ 500 < dep)
  · clear hk1 hk2 hn1 hn2 hcell1 hcell2
    rcases hbad with g1 | ⟨g1, g2⟩ | ⟨g1, g2, g3⟩ | ⟨g1, g2, g3, g4⟩ | ⟨g1, g2, g3, g4, g5⟩ | ⟨g1, g2, g3, g4, g5, g6⟩
    all_goals
      go_enter Try.func9, Try.ntmps9
      go_wp2_with (go_at_call 10; refine (HW.out _).mono ?_; rintro e w' ⟨rfl, hb⟩)
      go_ret
      exact ⟨rfl, hb⟩
  have hg : ¬ 150 < (A.length : Int) ∧ ¬ 150 < (D.length : Int) ∧ ¬ W < 1 ∧ ¬ 500 < W ∧ ¬ dep < 1 ∧ ¬ 500 < dep := by omega
  obtain ⟨g1, g2, g4, g5, g6, g7⟩ := hg
  have HNw := hid (cnew_ok a1 a2 k1 k2 A D W dep w (by omega) (by omega) hk1 hk2 hn1 hn2 hcell1 hcell2 (by omega) (by omega) (by omega) (by omega))
  have HC1 := hid (show CellsAt w a1 (A.map bv) from hcell1)
  have HC2 := hid (show CellsAt w a2 (D.map bv) from hcell2)
  have HHA := hid (And.intro hk1 hn1)
  have HHD := hid (And.intro hk2 hn2)
  have HLn := hid (show A.length ≤ 150 ∧ D.length ≤ 150 ∧ 1 ≤ W ∧ W ≤ 500 ∧ 1 ≤ dep ∧ dep ≤ 500 from by omega)
  have hlen : (A ++ D).length = A.length + D.length := List.length_append
  have HEq := hid hlen
  clear hk1 hk2 hn1 hn2 hcell1 hcell2 hbad
  go_enter Try.func9, Try.ntmps9
  go_wp2_with fail
  clear g1 g2 g4 g5 g6 g7
  refine HNw.out.mono ?_
  rintro e w1 ⟨F, rfl, hF, hb⟩
  have HF1 := hid hF.at
  have HB1 := hid hb
  clear hF hb HNw
  have HFi := hid (fun q Wd h => cfind_any (A ++ D) A.length W dep F q Wd h)
  have HFp := hid (fun Wd h => HFi.out p Wd h)
  have HDi := hid (fun Wd h => cdist_any (A ++ D) A.length W dep F p Wd h)
  generalize hB : A ++ D = B at *
  cases hfs : findS B A.length W dep p with
  | none =>
    clear hB HEq hlen
    rw [hfs] at HFp
    have hpl : placesS B A.length W dep p = [] := findS_none hfs
    rw [hpl] at HDi
    unfold Option.getD sqv Sq.zero at HFp
    dsimp only [Option.isSome] at HFp
    clear hfs hpl
    go_wp2_with (first | (go_at_call 20; refine (num_any _ _).mono ?_; rintro e w' ⟨rfl, rfl⟩))
    refine (HFp.out _ HF1.out).mono ?_
    rintro e w2 ⟨rfl, hb⟩
    have hb := hb.alloc hb.size (.cells #[.int .i64 0, .int .i64 0, .int .i64 0] 30)
    have HS2 := hid (Blk.new w2 [.int .i64 0, .int .i64 0, .int .i64 0] 30)
    have HF2 := hid (HF1.out.low hb)
    have HB2 := hid (HB1.out.trans (hb.mono HB1.out.size))
    clear hb HF1 HB1
    go_wp2_with fail
    refine (HFi.out other _ HF2.out).mono ?_
    rintro e w3 ⟨rfl, hb⟩
    have HS3 := hid (HS2.out.below hb HS2.out.lt)
    have HF3 := hid (HF2.out.low hb)
    have HB3 := hid (HB2.out.trans (hb.mono HB2.out.size))
    clear hb HF2 HB2 HS2
    go_wp2_with fail
    refine (HFp.out _ HF3.out).mono ?_
    rintro e w4 ⟨rfl, hb⟩
    have hb := hb.alloc hb.size (.cells #[.int .i64 0, .int .i64 0, .int .i64 0] 30)
    have hT4 := Blk.new w4 [.int .i64 0, .int .i64 0, .int .i64 0] 30
    have HS4 := hid (HS3.out.below hb HS3.out.lt)
    have HF4 := hid (HF3.out.low hb)
    have HB4 := hid (HB3.out.trans (hb.mono HB3.out.size))
    have c0 := HS4.out.cell (k := 0) rfl
    have c1 := HS4.out.cell (k := 1) rfl
    have c2 := HS4.out.cell (k := 2) rfl
    have d0 := hT4.cell (k := 0) rfl
    have d1 := hT4.cell (k := 1) rfl
    have d2 := hT4.cell (k := 2) rfl
    clear hb HF3 HB3 HS3 hT4 HFi HFp
    go_wp2_with fail
    clear c0 c1 c2 d0 d1 d2
    refine (HDi.out _ HF4.out).mono ?_
    rintro e w5 ⟨v, rfl, hown, hb⟩
    have HS5 := hid (HS4.out.below hb HS4.out.lt)
    have HB5 := hid (HB4.out.trans (hb.mono HB4.out.size))
    obtain ⟨bl, cl, rfl⟩ := own_slice hown
    clear hown hb HS4 HF4 HB4 HDi
    have c0 := HS5.out.cell (k := 0) rfl
    have c1 := HS5.out.cell (k := 1) rfl
    have c2 := HS5.out.cell (k := 2) rfl
    go_wp2_with fail
    refine (HW.out _).mono ?_
    rintro e w6 ⟨rfl, hb⟩
    go_wp2
    go_ret
    exact ⟨rfl, HB5.out.trans (hb.mono HB5.out.size)⟩
  | some s0 =>
    rw [hfs] at HFp
    obtain ⟨P, N, d, rfl, rfl, hN3, hfit, hd1, hd2, hdW, hver, hlen0, hdm, hall⟩ := hold_plain hfs
    unfold Option.getD sqv at HFp
    dsimp only [Option.isSome] at HFp
    have hsort := placesS_sorted B A.length W dep (P : Int)
    have hwide : ((placesS B A.length W dep (P : Int)).length : Int) ≤ dep := by
      rw [placesS_candL, List.length_map]
      exact candL_wide B A.length W dep P (by have := HLn.out; omega)
    have HAll := hid hall
    have HVer := hid hver
    have HSo := hid hsort
    have HDm := hid hdm
    have HL0 := hid hlen0
    clear hfs hall hver hsort hdm hlen0
    generalize placesS B A.length W dep (P : Int) = L at *
    have p1 : ¬ (P : Int) < 0 := by omega
    have p2 : ¬ (D.length : Int) ≤ (P : Int) := by omega
    go_wp2_with (first | (go_at_call 20; refine (num_any _ _).mono ?_; rintro e w' ⟨rfl, rfl⟩))
    refine (HFp.out _ HF1.out).mono ?_
    rintro e w2 ⟨rfl, hb⟩
    have hb := hb.alloc hb.size (.cells #[.int .i64 0, .int .i64 (N : Int), .int .i64 (d : Int)] 30)
    have HS2 := hid (Blk.new w2 [.int .i64 0, .int .i64 (N : Int), .int .i64 (d : Int)] 30)
    have HF2 := hid (HF1.out.low hb)
    have HB2 := hid (HB1.out.trans (hb.mono HB1.out.size))
    clear hb HF1 HB1
    go_wp2_with fail
    refine (HFi.out other _ HF2.out).mono ?_
    rintro e w3 ⟨rfl, hb⟩
    have HS3 := hid (HS2.out.below hb HS2.out.lt)
    have HF3 := hid (HF2.out.low hb)
    have HB3 := hid (HB2.out.trans (hb.mono HB2.out.size))
    clear hb HF2 HB2 HS2
    go_wp2_with fail
    refine (HFp.out _ HF3.out).mono ?_
    rintro e w4 ⟨rfl, hb⟩
    have hb := hb.alloc hb.size (.cells #[.int .i64 0, .int .i64 (N : Int), .int .i64 (d : Int)] 30)
    have hT4 := Blk.new w4 [.int .i64 0, .int .i64 (N : Int), .int .i64 (d : Int)] 30
    have HS4 := hid (HS3.out.below hb HS3.out.lt)
    have HF4 := hid (HF3.out.low hb)
    have HB4 := hid (HB3.out.trans (hb.mono HB3.out.size))
    have c0 := HS4.out.cell (k := 0) rfl
    have c1 := HS4.out.cell (k := 1) rfl
    have c2 := HS4.out.cell (k := 2) rfl
    have d0 := hT4.cell (k := 0) rfl
    have d1 := hT4.cell (k := 1) rfl
    have d2 := hT4.cell (k := 2) rfl
    clear hb HF3 HB3 HS3 hT4 HFi HFp
    go_wp2_with fail
    clear c0 c1 c2 d0 d1 d2
    refine (HDi.out _ HF4.out).mono ?_
    rintro e w5 ⟨v, rfl, hown, hb⟩
    have HS5 := hid (HS4.out.below hb HS4.out.lt)
    have HB5 := hid (HB4.out.trans (hb.mono HB4.out.size))
    obtain ⟨bl, cl, rfl⟩ := own_slice hown
    have HL5 := hid ((Sl.of_owns hown).cells' rfl)
    clear hown hb HS4 HF4 HB4 HDi p1 p2
    obtain ⟨g, hg⟩ : ∃ g, g = w2.heap.size := ⟨_, rfl⟩
    rw [← hg] at HS5 ⊢
    clear hg
    go_wp2_with (at_builtin; refine Hid.out ?_)
    refine hid ?_
    have HE0 := hid (own_emptyK (w := w5) (e := 5) 1 (Nat.le_refl _))
    have HB6 := hid ((Below.refl w5.heap.size w5).alloc (Nat.le_refl _) (.cells #[] 5))
    have hs0 : w5.heap.size ≤ (w5.alloc (.cells #[] 5)).heap.size := by simp
    generalize w5.alloc (.cells #[] 5) = w6 at *
    refine wpList_appendsK rfl _ _ 22 rfl 5 _ 1 1 Try.underlying22 Try.info_byte rfl (by decide) (by decide) w6 w5.heap.size _ 0 A.length k1 a1 [] (A.map bv) (by simp) ?hu rfl rfl HHA.out.1 HHA.out.2 ((HC1.out.low HB5.out).low HB6.out) (by exact HE0.out) ?hn hs0 ?hk
    case hu =>
      intro u hu
      obtain ⟨x, _, rfl⟩ := List.mem_map.1 hu
      rfl
    case hn => have := HLn.out; omega
    case hk =>
      intro v1 w7 hown1 hg1
      rw [List.nil_append, Nat.zero_add] at hown1
      have hbg1 := below_grown HE0.out hg1 hs0
      have HO1 := hid hown1
      have HB7 := hid (HB6.out.trans hbg1)
      have hs2 : w5.heap.size ≤ w7.heap.size := Nat.le_trans hs0 hbg1.size
      clear hown1 hg1 hbg1 HE0 HB6 hs0
      obtain ⟨b1, d1, rfl⟩ := own_slice HO1.out
      go_wp2_with (at_builtin; refine Hid.out ?_)
      refine hid ?_
      refine wpList_appendsK rfl _ _ 22 rfl 5 _ 1 1 Try.underlying22 Try.info_byte rfl (by decide) (by decide) w7 w5.heap.size _ A.length D.length k2 a2 (A.map bv) (D.map bv) (by simp) ?hu2 rfl rfl HHD.out.1 HHD.out.2 ((HC2.out.low HB5.out).low HB7.out) (by exact HO1.out) ?hn2 hs2 ?hk2
      case hu2 =>
        intro u hu
        obtain ⟨x, _, rfl⟩ := List.mem_map.1 hu
        rfl
      case hn2 => have := HLn.out; omega
      case hk2 =>
        intro v2 w8 hown2 hg2
        rw [← List.length_append, ← List.map_append, hB] at hown2
        have hbg2 := below_grown HO1.out hg2 hs2
        have hB8 := HB7.out.trans hbg2
        have HB8 := hid (HB5.out.trans (hB8.mono HB5.out.size))
        have HS8 := hid (HS5.out.below hB8 HS5.out.lt)
        have HL8 := hid (HL5.out.low hB8)
        obtain ⟨b2, d2, rfl⟩ := own_slice hown2
        have HK8 := hid ((Sl.of_owns hown2).cells' rfl)
        have HKc := hid ((Sl.of_owns hown2).cap rfl)
        have HC28 := hid (HC2.out.low HB8.out)
        clear hown2 hg2 hbg2 hB8 HL5 HS5 HB7 HO1 hs2 HB5 HC1 HC2 HHA
        obtain ⟨o, ho⟩ : ∃ o, o = A.length + P := ⟨_, rfl⟩
        have hLn := HLn.out
        have hw1 : IntKind.i64.wrap ((A.length : Int) + (P : Int)) = (o : Int) := by rw [IntKind.wrap_i64]; omega
        have hw2 : IntKind.i64.wrap ((o : Int) - (d : Int)) = ((o - d : Nat) : Int) := by rw [IntKind.wrap_i64]; omega
        rw [← ho] at HVer HL0 HAll
        obtain ⟨u2, f2, rfl, hz1, hz2⟩ := HC28.out 0 (bv (D[0]'(by omega))) (by rw [List.getElem?_map, List.getElem?_eq_getElem (by omega)]; rfl)
        obtain ⟨u3, f3, rfl, hz3, hz4⟩ := HK8.out 0 (bv (B[0]'(by omega))) (by rw [List.getElem?_map, List.getElem?_eq_getElem (by omega)]; rfl)
        have HVf := hid (fun (g2 : Nat) (Wd : World) (hb : Below w8.heap.size w8 Wd) (hx : Blk Wd g2 [.int .i64 0, .int .i64 (N : Int), .int .i64 (d : Int)] 30) => pverify_ok [⟨0, (N : Int), (d : Int)⟩] (some ⟨g2, 0, none⟩) (some ⟨u3, f3, none⟩) (some ⟨u2, f2 + P, none⟩) 1 d2 (k2 - P) (B.take o) (D.drop P) W Wd (by simp) (by simp) hx.cellsAt
          (by rw [List.length_take]; omega) (by rw [List.length_drop]; omega) (by have := HKc.out.1; rw [List.length_take]; omega) (by have := HHD.out.1; rw [List.length_drop]; omega) (by simp) (by simp)
          ((CellsAt.take' HK8.out o).low hb) ((HC28.out.sub' P).low hb) (by omega) (by omega) (by
            have e1 : B.take o ++ D.drop P = B := by
              rw [← hB, ho, List.take_length_add_append, List.append_assoc, List.take_append_drop]
            have e2 : (B.take o).length = o := by rw [List.length_take]; omega
            rw [e1, e2]
            exact HVer.out))
        rw [show (B.take o).length = o from by rw [List.length_take]; omega, show (D.drop P).length = D.length - P from List.length_drop] at HVf
        have HLe := hid (fun (q : Int) (Wd : World) (hb : Below w8.heap.size w8 Wd) => len_any (some ⟨u3, f3, none⟩) d2 B (o : Int) q B.length Wd (by omega) (by have := HKc.out.1; omega) (HK8.out.low hb))
        have HLe0 := hid (HLe.out ((o - d : Nat) : Int))
        rw [HL0.out] at HLe0
        have hkI : (D.length : Int) ≤ (k2 : Int) := by have := HHD.out.1; omega
        have hdI : (B.length : Int) ≤ (d2 : Int) := by have := HKc.out.1; omega
        have hoB : o + 3 ≤ B.length := by omega
        have hPD : P + 3 ≤ D.length := by omega
        have HOo := hid (And.intro ho (And.intro hoB hPD))
        have hoI : (o : Int) ≤ (B.length : Int) := by omega
        have hPI : (P : Int) ≤ (D.length : Int) := by omega
        have hn1 : ¬ k2 = P := by omega
        have hn2 : ¬ k2 - P = 0 := by omega
        have hoN : o ≤ d2 := by omega
        have hPN : P ≤ k2 := by omega
        have H3 := hid (And.intro hN3 (And.intro hd1 (And.intro hd2 hdW)))
        have hwd : ¬ dep < (L.length : Int) := by omega
        have HLb := hid (show (L.length : Int) ≤ 500 from by omega)
        clear hz1 hz2 hz3 hz4
        clear HVer HL0 HKc HHD hlen HEq hfit hLn hwide hN3 hd1 hd2 hdW ho hoB hPD hB
        go_upto_region 16 with fail
        refine wp_region_noPanic ?_
        refine wp_region_held_drew (S := fun W' => Below w8.heap.size w8 W') (by kernel_rfl) (Below.refl w8.heap.size w8).drew (fun hHeld => ?_)
        refine wpAnyH_take (i := 0) (v := .agg #[.int .i64 0, .int .i64 (N : Int), .int .i64 (d : Int)]) (by simp only [List.getElem?_toArray, List.getElem?_cons_zero]; rfl) (by kernel_rfl) (by kernel_rfl) (by kernel_rfl) (fun _ _ _ h => h) (Or.inl ⟨by rfl, fun W hSw => ?_⟩) (by assumption) ?_
        · have hcw0 := (hSw.cell (p := ⟨g, 0, none⟩) HS8.out.lt).trans (HS8.out.cell (k := 0) rfl)
          have hcw1 := (hSw.cell (p := ⟨g, 1, none⟩) HS8.out.lt).trans (HS8.out.cell (k := 1) rfl)
          have hcw2 := (hSw.cell (p := ⟨g, 2, none⟩) HS8.out.lt).trans (HS8.out.cell (k := 2) rfl)
          go_simp
        simp only [Act.put, List.setIfInBounds_toArray, List.set_cons_zero, List.set_cons_succ]
        refine wpAnyH_take (i := 2) (v := .slice (some ⟨u3, f3, none⟩) B.length d2) (by simp only [List.getElem?_toArray, List.getElem?_cons_zero, List.getElem?_cons_succ]; rfl) (by kernel_rfl) (by kernel_rfl) (by kernel_rfl) (fun _ _ _ h => h) (Or.inl ⟨by rfl, fun W hSw => ?_⟩) (by assumption) ?_
        · clear hSw
          go_simp
        simp only [Act.put, List.setIfInBounds_toArray, List.set_cons_zero, List.set_cons_succ]
        refine wpAnyH_take (i := 3) (v := .int .i64 (o : Int)) (by simp only [List.getElem?_toArray, List.getElem?_cons_zero, List.getElem?_cons_succ]; rfl) (by kernel_rfl) (by kernel_rfl) (by kernel_rfl) (fun _ _ _ h => h) (Or.inl ⟨by rfl, fun W hSw => ?_⟩) (by assumption) ?_
        · clear hSw
          go_simp
        simp only [Act.put, List.setIfInBounds_toArray, List.set_cons_zero, List.set_cons_succ]
        refine wpAnyH_take (i := 4) (v := .slice (some ⟨u3, f3, none⟩) o d2) (by simp only [List.getElem?_toArray, List.getElem?_cons_zero, List.getElem?_cons_succ]; rfl) (by kernel_rfl) (by kernel_rfl) (by kernel_rfl) (fun _ _ _ h => h) (Or.inl ⟨by rfl, fun W hSw => ?_⟩) (by assumption) ?_
        · clear hSw
          go_simp
        simp only [Act.put, List.setIfInBounds_toArray, List.set_cons_zero, List.set_cons_succ]
        refine wpAnyH_take (i := 5) (v := .slice (some ⟨u2, f2, none⟩) D.length k2) (by simp only [List.getElem?_toArray, List.getElem?_cons_zero, List.getElem?_cons_succ]; rfl) (by kernel_rfl) (by kernel_rfl) (by kernel_rfl) (fun _ _ _ h => h) (Or.inl ⟨by rfl, fun W hSw => ?_⟩) (by assumption) ?_
        · clear hSw
          go_simp
        simp only [Act.put, List.setIfInBounds_toArray, List.set_cons_zero, List.set_cons_succ]
        refine wpAnyH_take (i := 6) (v := .int .i64 (P : Int)) (by simp only [List.getElem?_toArray, List.getElem?_cons_zero, List.getElem?_cons_succ]; rfl) (by kernel_rfl) (by kernel_rfl) (by kernel_rfl) (fun _ _ _ h => h) (Or.inl ⟨by rfl, fun W hSw => ?_⟩) (by assumption) ?_
        · clear hSw
          go_simp
        simp only [Act.put, List.setIfInBounds_toArray, List.set_cons_zero, List.set_cons_succ]
        refine wpAnyH_take (i := 7) (v := .slice (some ⟨u2, f2 + P, none⟩) (D.length - P) (k2 - P)) (by simp only [List.getElem?_toArray, List.getElem?_cons_zero, List.getElem?_cons_succ]; rfl) (by kernel_rfl) (by kernel_rfl) (by kernel_rfl) (fun _ _ _ h => h) (Or.inl ⟨by rfl, fun W hSw => ?_⟩) (by assumption) ?_
        · clear hSw
          go_simp
        simp only [Act.put, List.setIfInBounds_toArray, List.set_cons_zero, List.set_cons_succ]
        refine wpAnyH_take (i := 8) (v := .int .i64 W) (by simp only [List.getElem?_toArray, List.getElem?_cons_zero, List.getElem?_cons_succ]; rfl) (by kernel_rfl) (by kernel_rfl) (by kernel_rfl) (fun _ _ _ h => h) (Or.inl ⟨by rfl, fun W hSw => ?_⟩) (by assumption) ?_
        · clear hSw
          go_simp
        simp only [Act.put, List.setIfInBounds_toArray, List.set_cons_zero, List.set_cons_succ]
        refine wpAnyH_ready (rs := [1]) (by kernel_rfl) (by simp) ?_
        refine AllReadyH.cons (by simp only [List.getElem?_toArray, List.getElem?_cons_zero, List.getElem?_cons_succ]; rfl) (fun K hK => ?_) AllReadyH.nil
        rw [if_pos (by rfl)]
        go_simp
        have hb9 := (Below.refl w8.heap.size w8).drew.alloc (Below.refl w8.heap.size w8).drew.size (.cells #[.int .i64 0, .int .i64 (N : Int), .int .i64 (d : Int)] 30)
        have HX9 := hid (Blk.new w8.drew [.int .i64 0, .int .i64 (N : Int), .int .i64 (d : Int)] 30)
        refine hK.out _ _ hb9 (fun _ => ?_)
        clear hK K
        refine wpAnyH_ready (rs := [9]) (by kernel_rfl) (by simp) ?_
        refine AllReadyH.cons (by simp only [List.getElem?_toArray, List.getElem?_cons_zero, List.getElem?_cons_succ]; rfl) (fun K hK => ?_) AllReadyH.nil
        rw [if_pos (by rfl)]
        go_simp
        go_at_call 27
        refine (HVf.out _ _ hb9 HX9.out).mono ?_
        rintro e w10 ⟨rfl, hb⟩
        have hb10 := hb9.trans (hb.mono hb9.size)
        dsimp only
        refine hK.out _ _ hb10 (fun _ => ?_)
        clear hK K hb hb9 HX9 HVf
        refine wpAnyH_ready (rs := [10]) (by kernel_rfl) (by simp) ?_
        refine AllReadyH.cons (by simp only [List.getElem?_toArray, List.getElem?_cons_zero, List.getElem?_cons_succ]; rfl) (fun K hK => ?_) AllReadyH.nil
        rw [if_pos (by rfl)]
        go_simp
        go_at_call 20
        refine (num_any _ _).mono ?_
        rintro e w' ⟨rfl, rfl⟩
        dsimp only
        refine hK.out _ _ hb10 (fun _ => ?_)
        clear hK K
        refine wpAnyH_ready (rs := [11]) (by kernel_rfl) (by simp) ?_
        refine AllReadyH.cons (by simp only [List.getElem?_toArray, List.getElem?_cons_zero, List.getElem?_cons_succ]; rfl) (fun K hK => ?_) AllReadyH.nil
        rw [if_pos (by rfl)]
        go_simp
        refine hK.out _ _ hb10 (fun _ => ?_)
        clear hK K
        refine wpAnyH_ready (rs := [12]) (by kernel_rfl) (by simp) ?_
        refine AllReadyH.cons (by simp only [List.getElem?_toArray, List.getElem?_cons_zero, List.getElem?_cons_succ]; rfl) (fun K hK => ?_) AllReadyH.nil
        rw [if_pos (by rfl)]
        go_simp
        refine hK.out _ _ hb10 (fun _ => ?_)
        clear hK K
        refine wpAnyH_take (i := 13) (v := .slice (some ⟨u3, f3, none⟩) B.length d2) (by simp only [List.getElem?_toArray, List.getElem?_cons_zero, List.getElem?_cons_succ]; rfl) (by kernel_rfl) (by kernel_rfl) (by kernel_rfl) (fun _ _ _ h => h) (Or.inl ⟨by rfl, fun W hSw => ?_⟩) (by assumption) ?_
        · clear hSw
          go_simp
        simp only [Act.put, List.setIfInBounds_toArray, List.set_cons_zero, List.set_cons_succ]
        refine wpAnyH_take (i := 14) (v := .int .i64 (o : Int)) (by simp only [List.getElem?_toArray, List.getElem?_cons_zero, List.getElem?_cons_succ]; rfl) (by kernel_rfl) (by kernel_rfl) (by kernel_rfl) (fun _ _ _ h => h) (Or.inl ⟨by rfl, fun W hSw => ?_⟩) (by assumption) ?_
        · clear hSw
          go_simp
        simp only [Act.put, List.setIfInBounds_toArray, List.set_cons_zero, List.set_cons_succ]
        refine wpAnyH_take (i := 15) (v := .int .i64 (o : Int)) (by simp only [List.getElem?_toArray, List.getElem?_cons_zero, List.getElem?_cons_succ]; rfl) (by kernel_rfl) (by kernel_rfl) (by kernel_rfl) (fun _ _ _ h => h) (Or.inl ⟨by rfl, fun W hSw => ?_⟩) (by assumption) ?_
        · clear hSw
          go_simp
        simp only [Act.put, List.setIfInBounds_toArray, List.set_cons_zero, List.set_cons_succ]
        refine wpAnyH_take (i := 16) (v := .pointer (some ⟨g, 2, none⟩)) (by simp only [List.getElem?_toArray, List.getElem?_cons_zero, List.getElem?_cons_succ]; rfl) (by kernel_rfl) (by kernel_rfl) (by kernel_rfl) (fun _ _ _ h => h) (Or.inl ⟨by rfl, fun W hSw => ?_⟩) (by assumption) ?_
        · clear hSw
          go_simp
        simp only [Act.put, List.setIfInBounds_toArray, List.set_cons_zero, List.set_cons_succ]
        refine wpAnyH_take (i := 17) (v := .int .i64 (d : Int)) (by simp only [List.getElem?_toArray, List.getElem?_cons_zero, List.getElem?_cons_succ]; rfl) (by kernel_rfl) (by kernel_rfl) (by kernel_rfl) (fun _ _ _ h => h) (Or.inl ⟨by rfl, fun W hSw => ?_⟩) (by assumption) ?_
        · have hcw2 := (hSw.cell (p := ⟨g, 2, none⟩) HS8.out.lt).trans (HS8.out.cell (k := 2) rfl)
          go_simp
        simp only [Act.put, List.setIfInBounds_toArray, List.set_cons_zero, List.set_cons_succ]
        refine wpAnyH_take (i := 18) (v := .int .i64 ((o - d : Nat) : Int)) (by simp only [List.getElem?_toArray, List.getElem?_cons_zero, List.getElem?_cons_succ]; rfl) (by kernel_rfl) (by kernel_rfl) (by kernel_rfl) (fun _ _ _ h => h) (Or.inl ⟨by rfl, fun W hSw => ?_⟩) (by assumption) ?_
        · clear hSw
          go_simp
        simp only [Act.put, List.setIfInBounds_toArray, List.set_cons_zero, List.set_cons_succ]
        refine wpAnyH_take (i := 19) (v := .slice (some ⟨u3, f3, none⟩) B.length d2) (by simp only [List.getElem?_toArray, List.getElem?_cons_zero, List.getElem?_cons_succ]; rfl) (by kernel_rfl) (by kernel_rfl) (by kernel_rfl) (fun _ _ _ h => h) (Or.inl ⟨by rfl, fun W hSw => ?_⟩) (by assumption) ?_
        · clear hSw
          go_simp
        simp only [Act.put, List.setIfInBounds_toArray, List.set_cons_zero, List.set_cons_succ]
        refine wpAnyH_take (i := 20) (v := .int .i64 (B.length : Int)) (by simp only [List.getElem?_toArray, List.getElem?_cons_zero, List.getElem?_cons_succ]; rfl) (by kernel_rfl) (by kernel_rfl) (by kernel_rfl) (fun _ _ _ h => h) (Or.inl ⟨by rfl, fun W hSw => ?_⟩) (by assumption) ?_
        · clear hSw
          go_simp
        simp only [Act.put, List.setIfInBounds_toArray, List.set_cons_zero, List.set_cons_succ]
        refine wpAnyH_take (i := 22) (v := .pointer (some ⟨g, 1, none⟩)) (by simp only [List.getElem?_toArray, List.getElem?_cons_zero, List.getElem?_cons_succ]; rfl) (by kernel_rfl) (by kernel_rfl) (by kernel_rfl) (fun _ _ _ h => h) (Or.inl ⟨by rfl, fun W hSw => ?_⟩) (by assumption) ?_
        · clear hSw
          go_simp
        simp only [Act.put, List.setIfInBounds_toArray, List.set_cons_zero, List.set_cons_succ]
        refine wpAnyH_take (i := 23) (v := .int .i64 (N : Int)) (by simp only [List.getElem?_toArray, List.getElem?_cons_zero, List.getElem?_cons_succ]; rfl) (by kernel_rfl) (by kernel_rfl) (by kernel_rfl) (fun _ _ _ h => h) (Or.inl ⟨by rfl, fun W hSw => ?_⟩) (by assumption) ?_
        · have hcw1 := (hSw.cell (p := ⟨g, 1, none⟩) HS8.out.lt).trans (HS8.out.cell (k := 1) rfl)
          go_simp
        simp only [Act.put, List.setIfInBounds_toArray, List.set_cons_zero, List.set_cons_succ]
        refine wpAnyH_ready (rs := [21]) (by kernel_rfl) (by simp) ?_
        refine AllReadyH.cons (by simp only [List.getElem?_toArray, List.getElem?_cons_zero, List.getElem?_cons_succ]; rfl) (fun K hK => ?_) AllReadyH.nil
        rw [if_pos (by rfl)]
        go_simp
        go_at_call 28
        refine (HLe0.out _ hb10).mono ?_
        rintro e w11 ⟨rfl, hb⟩
        have hb11 := hb10.trans (hb.mono hb10.size)
        dsimp only
        refine hK.out _ _ hb11 (fun _ => ?_)
        clear hK K hb hb10
        refine wpAnyH_ready (rs := [24]) (by kernel_rfl) (by simp) ?_
        refine AllReadyH.cons (by simp only [List.getElem?_toArray, List.getElem?_cons_zero, List.getElem?_cons_succ]; rfl) (fun K hK => ?_) AllReadyH.nil
        rw [if_pos (by rfl)]
        go_simp
        refine hK.out _ _ hb11 (fun _ => ?_)
        clear hK K
        refine wpAnyH_ready (rs := [25]) (by kernel_rfl) (by simp) ?_
        refine AllReadyH.cons (by simp only [List.getElem?_toArray, List.getElem?_cons_zero, List.getElem?_cons_succ]; rfl) (fun K hK => ?_) AllReadyH.nil
        rw [if_pos (by rfl)]
        go_simp
        refine hK.out _ _ hb11 (fun _ => ?_)
        clear hK K
        refine wpAnyH_ready (rs := [26]) (by kernel_rfl) (by simp) ?_
        refine AllReadyH.cons (by simp only [List.getElem?_toArray, List.getElem?_cons_zero, List.getElem?_cons_succ]; rfl) (fun K hK => ?_) AllReadyH.nil
        rw [if_pos (by rfl)]
        go_simp
        refine hK.out _ _ hb11 (fun _ => ?_)
        clear hK K
        refine wpAnyH_take (i := 27) (v := .slice bl L.length cl) (by simp only [List.getElem?_toArray, List.getElem?_cons_zero, List.getElem?_cons_succ]; rfl) (by kernel_rfl) (by kernel_rfl) (by kernel_rfl) (fun _ _ _ h => h) (Or.inl ⟨by rfl, fun W hSw => ?_⟩) (by assumption) ?_
        · clear hSw
          go_simp
        simp only [Act.put, List.setIfInBounds_toArray, List.set_cons_zero, List.set_cons_succ]
        refine wpAnyH_take (i := 28) (v := .int .i64 (L.length : Int)) (by simp only [List.getElem?_toArray, List.getElem?_cons_zero, List.getElem?_cons_succ]; rfl) (by kernel_rfl) (by kernel_rfl) (by kernel_rfl) (fun _ _ _ h => h) (Or.inl ⟨by rfl, fun W hSw => ?_⟩) (by assumption) ?_
        · clear hSw
          go_simp
        simp only [Act.put, List.setIfInBounds_toArray, List.set_cons_zero, List.set_cons_succ]
        refine wpAnyH_take (i := 29) (v := .int .i64 dep) (by simp only [List.getElem?_toArray, List.getElem?_cons_zero, List.getElem?_cons_succ]; rfl) (by kernel_rfl) (by kernel_rfl) (by kernel_rfl) (fun _ _ _ h => h) (Or.inl ⟨by rfl, fun W hSw => ?_⟩) (by assumption) ?_
        · clear hSw
          go_simp
        simp only [Act.put, List.setIfInBounds_toArray, List.set_cons_zero, List.set_cons_succ]
        refine wpAnyH_ready (rs := [30]) (by kernel_rfl) (by simp) ?_
        refine AllReadyH.cons (by simp only [List.getElem?_toArray, List.getElem?_cons_zero, List.getElem?_cons_succ]; rfl) (fun K hK => ?_) AllReadyH.nil
        rw [if_pos (by rfl)]
        go_simp
        refine hK.out _ _ hb11 (fun _ => ?_)
        clear hK K
        refine wpAnyH_ready (rs := [31]) (by kernel_rfl) (by simp) ?_
        refine AllReadyH.cons (by simp only [List.getElem?_toArray, List.getElem?_cons_zero, List.getElem?_cons_succ]; rfl) (fun K hK => ?_) AllReadyH.nil
        rw [if_pos (by rfl)]
        go_simp
        refine hK.out _ _ hb11 (fun _ => ?_)
        clear hK K
        refine wpAnyH_done (by kernel_rfl) ?_ _
        refine NoPanic.normal ?_
        have HB11 := hid hb11
        clear hb11 HLe0 hw1 hw2 hn1 hn2 hoN hPN hwd
        go_wp2_with fail
        go_loopw [22, 23, 24] (fun last inn i wr => ∃ j : Nat, j ≤ L.length ∧ i = .int .i64 (j : Int) ∧ last = .int .i64 (lastF L j : Nat) ∧ inn = .bool (inF L d j) ∧ Below w8.heap.size w8 wr) (fun _ _ i _ => L.length - (intOf i).toNat)
        case atStart => exact ⟨0, Nat.zero_le _, rfl, rfl, rfl, HB11.out⟩
        case round =>
          obtain ⟨j, hj, rfl, rfl, rfl, hBr⟩ := hrel
          have HBr := hid hBr
          by_cases hlt : j < L.length
          · obtain ⟨x, hx⟩ : ∃ x, L[j]? = some x := ⟨L[j], by simp [hlt]⟩
            obtain ⟨x1, x2, x3, x4, x5, x6⟩ := HAll.out x (List.mem_of_getElem? hx)
            have hlast := lastF_lt HSo.out (fun y hy => (HAll.out y hy).1) hx
            have hnx := lastF_next hx
            have hin := inF_next (d := d) hx
            have hLn := HLn.out
            have hLb := HLb.out
            obtain ⟨e5, e6, rfl, e7, e8⟩ := HL8.out j (.int .i64 (x : Int)) (by rw [List.getElem?_map, hx]; rfl)
            have hcr := (hBr.cell (p := ⟨e5, e6 + j, none⟩) e7).trans e8
            have hw3 : IntKind.i64.wrap ((o : Int) - (x : Int)) = ((o - x : Nat) : Int) := by rw [IntKind.wrap_i64]; have := HOo.out; omega
            have HLx := hid (HLe.out ((o - x : Nat) : Int))
            have hw4 : IntKind.i64.wrap ((j : Int) + 1) = (j : Int) + 1 := by rw [IntKind.wrap_i64]; omega
            have t1 : ¬ (x : Int) ≤ (lastF L j : Nat) := by omega
            have t2 : ¬ W < (x : Int) := by omega
            generalize lastF L j = l0 at *
            generalize lenS B (o : Int) ((o - x : Nat) : Int) B.length = nn at *
            have t3 : ¬ (nn : Int) < 3 := by omega
            have t1' : ¬ x ≤ l0 := by omega
            have t3' : ¬ nn < 3 := by omega
            have t4' : ¬ N < nn := by omega
            have t4 : ¬ (N : Int) < (nn : Int) := by omega
            have hjI : (j : Int) < (L.length : Int) := by omega
            have HNx := hid hnx
            have HIn := hid hin
            have HLt := hid hlt
            have HE8 := hid (And.intro e7 e8)
            clear hBr hj hx x1 x2 x3 x4 x5 hlast hnx hin hlt hLn hLb e8
            go_wp2_with fail
            refine (HLx.out _ HBr.out).mono ?_
            rintro e w13 ⟨rfl, hb⟩
            have HB13 := hid (HBr.out.trans (hb.mono HBr.out.size))
            have c1 := (HB13.out.cell (p := ⟨g, 1, none⟩) HS8.out.lt).trans (HS8.out.cell (k := 1) rfl)
            have c2 := (HB13.out.cell (p := ⟨g, 2, none⟩) HS8.out.lt).trans (HS8.out.cell (k := 2) rfl)
            have hcr2 := (HB13.out.cell (p := ⟨e5, e6 + j, none⟩) HE8.out.1).trans HE8.out.2
            clear hb HBr hcr HLx
            have hcase : (nn = N ∧ ¬ x < d ∧ ¬ (x : Int) < (d : Int)) ∨ (¬ nn = N ∧ ¬ (nn : Int) = (N : Int)) := by omega
            have hcas2 : (inF L d j = true ∧ inF L d (j + 1) = true) ∨ (inF L d j = false ∧ x = d ∧ inF L d (j + 1) = true) ∨ (inF L d j = false ∧ (¬ x = d ∧ ¬ (x : Int) = (d : Int)) ∧ inF L d (j + 1) = false) := by
              rw [HIn.out]
              cases inF L d j with
              | true => exact .inl ⟨rfl, rfl⟩
              | false =>
                by_cases h : x = d
                · exact .inr (.inl ⟨rfl, h, by simp [h]⟩)
                · exact .inr (.inr ⟨rfl, ⟨h, by omega⟩, by simp [h]⟩)
            have HJ := hid (show j + 1 ≤ L.length from HLt.out)
            clear x6 HIn
            rcases hcas2 with ⟨i1, i2⟩ | ⟨i1, rfl, i2⟩ | ⟨i1, ⟨i3, i4⟩, i2⟩
            all_goals
              rw [i1]
              rcases hcase with ⟨rfl, q2, q3⟩ | ⟨q1, q2⟩
              all_goals
                go_wp2_with fail
                go_quiet (fail)
                go_wp2_with fail
                go_quiet (fail)
                go_wp2
                go_roundw
                case rel => exact ⟨j + 1, HJ.out, by go_num, by rw [HNx.out], by rw [i2] <;> (first | rfl | exact congrArg Value.bool (beq_eq_false_iff_ne.2 i4)), below_drewN HB13.out _⟩
                case measure => have := HJ.out; simp [intOf]; omega
          · obtain rfl : j = L.length := by omega
            have hin := inF_all HDm.out
            rw [hin]
            clear hj hlt hBr
            go_wp2_with fail
            refine (HW.out _).mono ?_
            rintro e w14 ⟨rfl, hb⟩
            go_wp2
            go_ret
            exact ⟨rfl, HB8.out.trans ((HBr.out.trans (hb.mono HBr.out.size)).mono HB8.out.size)⟩
end Go.Proofs.Ytnmicfheekpnfaa
namespace Go.Proofs.Ytnmicfheekpnfaa.LChainsHold
open Go.ChangeShapes Go.WideShapes Go.ChangeAt Go.RowKit Go.Port

set_option maxRecDepth 100000 in
theorem lifted (os : Os) (started : os.Started) (H : Type) (enc : TypeId × Value → H) :
    ReturnsInHanded {} Try.checked os 9 .any (Rows.chainsHoldSpec.pre6 enc Try.prog Try.f9 Rows.chainsHoldRow.domain false) (Rows.chainsHoldSpec.post enc Try.prog Try.f9 false true false false) := by
  refine returnsInHanded_of_change (C := Try.checked) Try.own started (by kernel_rfl) Try.func9
    (ChangeSpec.witness6 (enc := enc) (C := Try.checked) false ⟨#[], #[.slice none 0 0, .slice none 0 0, .int .i64 0, .int .i64 0, .int .i64 0, .int .i64 0], []⟩ 8 (by kernel_rfl) (by kernel_rfl) (by kernel_rfl) (by kernel_rfl)) ?_
  intro W base args ds gs before hval0 hW hcnd _
  have hval : ∀ (j : Nat) t v, Try.f9.params[j]? = some t → args[j]? = some v → Value.okWide Try.prog W .any base t v := hval0
  have hW' := hW
  obtain ⟨p, q, hA0, hV, rfl, hfz, hnd⟩ := hW
  have hA : DataW.TrodAll enc Try.prog W 0 (fun _ => true) true Try.f9.params.toList args.toList ds p := hA0
  rw [Try.params9] at hA hval
  obtain ⟨v0, vs0, d0, ds0, p0, q0, hargs, rfl, rfl, h0, r0⟩ := trodAll_cons hA
  obtain ⟨v1, vs1, d1, ds1, p1, q1, rfl, rfl, rfl, h1, r1⟩ := trodAll_cons r0
  obtain ⟨v2, vs2, d2, ds2, p2, q2, rfl, rfl, rfl, h2, r2⟩ := trodAll_cons r1
  obtain ⟨v3, vs3, d3, ds3, p3, q3, rfl, rfl, rfl, h3, r3⟩ := trodAll_cons r2
  obtain ⟨v4, vs4, d4, ds4, p4, q4, rfl, rfl, rfl, h4, r4⟩ := trodAll_cons r3
  obtain ⟨v5, vs5, d5, ds5, p5, q5, rfl, rfl, rfl, h5, r5⟩ := trodAll_cons r4
  obtain ⟨rfl, rfl, rfl⟩ := trodAll_nil r5
  obtain rfl : args = #[v0, v1, v2, v3, v4, v5] := by cases args; simp_all
  obtain ⟨rfl, rfl⟩ := trodVars_none hV
  obtain ⟨l0, hl0, wl0⟩ := open_rowV Try.underlying22 Try.underlying5 (by kernel_rfl) (hval 0 22 v0 rfl rfl) h0
  obtain ⟨bs0, hbs0, hn0⟩ := bytes_of wl0
  rw [hbs0, ← hn0] at hl0
  obtain ⟨l1, hl1, wl1⟩ := open_rowV Try.underlying22 Try.underlying5 (by kernel_rfl) (hval 1 22 v1 rfl rfl) h1
  obtain ⟨bs1, hbs1, hn1⟩ := bytes_of wl1
  rw [hbs1, ← hn1] at hl1
  obtain ⟨a2, rfl, rfl, rfl, w2⟩ := open_int Try.underlying3 (hval 2 3 v2 rfl rfl) h2
  obtain ⟨a3, rfl, rfl, rfl, w3⟩ := open_int Try.underlying3 (hval 3 3 v3 rfl rfl) h3
  obtain ⟨a4, rfl, rfl, rfl, w4⟩ := open_int Try.underlying3 (hval 4 3 v4 rfl rfl) h4
  obtain ⟨a5, rfl, rfl, rfl, w5⟩ := open_int Try.underlying3 (hval 5 3 v5 rfl rfl) h5
  clear hA0 hval0
  simp only [List.append_nil] at hW'
  refine (ChainsHold_walk W v0 bs0 hl0 v1 bs1 hl1 a2 a3 a4 a5).mono fun e W' ⟨he, hb⟩ => ?_
  subst he
  exact ⟨_, rfl, law_post Try.kids Try.full Try.underlying4 rfl rfl hW' (by rw [Try.params9]; decide) rfl rfl rfl hb⟩

theorem over : Rows.chainsHoldRow.holds Try.pinned (OpenSpec.ofChange Rows.chainsHoldSpec) :=
  OpenClaim.holds_of_wide 9 Try.f9 rfl rfl rfl rfl rfl rfl rfl ⟨rfl, rfl, rfl, rfl, rfl⟩ rfl rfl rfl rfl rfl (by kernel_rfl) Try.func9 (by kernel_rfl)
    (of_decide_eq_true (by kernel_rfl)) (by unfold Func.isWrapper; first | (rw [if_pos (by decide +kernel)]; kernel_rfl) | (rw [if_neg (by decide +kernel)]; exact ⟨rfl, rfl⟩))
    (fun os started H enc _ => lifted os started H enc)

/-- The statement. -/
theorem proved : Rows.ChainsHoldSaid :=
  over
end Go.Proofs.Ytnmicfheekpnfaa.LChainsHold
