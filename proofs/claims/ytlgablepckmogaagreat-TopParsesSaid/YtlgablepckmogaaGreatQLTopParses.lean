/-
  The law TopParses: for at most 400 bytes each of history and data, any window, depth and parser, the plan of a parser, executed with the literals that it leaves behind a ring that holds the history, yields the data. No condition.
-/
import Derived.Test.YtlgablepckmogaaGreatQ12
import Derived.Test.YtlgablepckmogaaGreatQ39
import Derived.Test.YtlgablepckmogaaGreatQ49
import Derived.Test.YtlgablepckmogaaGreatQ22
namespace Go.Proofs.YtlgablepckmogaaGreat
open Go.RowKit Go.Port
attribute [local go_sem] Oper.semAt_some
/-- Which parser. -/
theorem which_is (n : Int) : ∃ k : Int, (k = 0 ∨ k = 1 ∨ k = 2) ∧ wrap64 ((IntKind.u64.wrap n).tmod 3) = k := by
  refine ⟨wrap64 ((IntKind.u64.wrap n).tmod 3), ?_, rfl⟩
  have h0 : 0 ≤ IntKind.u64.wrap n := by rw [IntKind.wrap_u64]; omega
  generalize IntKind.u64.wrap n = m at *
  rw [Int.tmod_eq_emod_of_nonneg h0]
  unfold wrap64
  omega
set_option maxRecDepth 100000 in
set_option maxHeartbeats 8000000 in
theorem TopParses_walk (w : World) (v1 : Value) (A : List UInt8) (h1 : Rs w 1 v1 A.length (A.map bv)) (v2 : Value) (D : List UInt8) (h2 : Rs w 1 v2 D.length (D.map bv)) (W dep which : Int) :
    Calls Tryz.prog 3 #[v1, v2, .int .i64 W, .int .i64 dep, .int .i64 which] w (RetV w (.bool true)) := by
  have HW := hid alive33_any
  obtain ⟨_, a1, k1, rfl, hk1, _, hn1, hcell1⟩ := h1
  obtain ⟨_, a2, k2, rfl, hk2, hm2, hn2, hcell2⟩ := h2
  by_cases hlA : 400 < (A.length : Int)
  · go_enter Tryz.func3, Tryz.ntmps3
    go_wp2_with (go_at_call 4; refine (HW.out _).mono ?_; rintro e w' ⟨rfl, hb⟩)
    go_ret
    exact ⟨rfl, hb⟩
  by_cases hlD : 400 < (D.length : Int)
  · go_enter Tryz.func3, Tryz.ntmps3
    go_wp2_with (go_at_call 4; refine (HW.out _).mono ?_; rintro e w' ⟨rfl, hb⟩)
    go_ret
    exact ⟨rfl, hb⟩
  by_cases hld : 64 < dep
  · go_enter Tryz.func3, Tryz.ntmps3
    go_wp2_with (go_at_call 4; refine (HW.out _).mono ?_; rintro e w' ⟨rfl, hb⟩)
    go_ret
    exact ⟨rfl, hb⟩
  have HC1 := hid (show CellsAt w a1 (A.map bv) from hcell1)
  have HC2 := hid (show CellsAt w a2 (D.map bv) from hcell2)
  have HHA := hid (And.intro hk1 hn1)
  have HHD := hid (And.intro hk2 (And.intro hn2 hm2))
  have HLn := hid (show A.length ≤ 400 ∧ D.length ≤ 400 from by omega)
  clear hk1 hk2 hn1 hn2 hm2 hcell1 hcell2
  by_cases hfk : finderOk D.length W dep = true
  · have hk := finderOk_bounds hfk
    obtain ⟨Wn, rfl⟩ : ∃ n : Nat, W = (n : Int) := ⟨W.toNat, by omega⟩
    have HK := hid hk
    obtain ⟨kk, hk3, hkw⟩ := which_is which
    have HKw := hid hkw
    have HK3 := hid hk3
    clear hk hfk hk3 hkw
    go_enter Tryz.func3, Tryz.ntmps3
    go_wp2_with fail
    clear hlA hlD hld
    refine (cnew_ok a1 a2 k1 k2 A D Wn dep w (by have := HLn.out; omega) (by have := HLn.out; omega) HHA.out.1 HHD.out.1 HHA.out.2 HHD.out.2.1 HC1.out HC2.out HK.out.1.1 HK.out.1.2 HK.out.2.1 HK.out.2.2).mono ?_
    rintro e w1 ⟨F, rfl, hF, hb1⟩
    obtain ⟨bs, hbs⟩ : ∃ bs, bs = A ++ D := ⟨_, rfl⟩
    have hbl : bs.length = A.length + D.length := by rw [hbs, List.length_append]
    have hbd : bs.drop A.length = D := by rw [hbs, List.drop_left]
    have HP := hid (parses_any bs A.length (Wn : Int) dep F w1 kk HK3.out (by rw [hbs]; exact hF.at) (by have := HLn.out; omega) (by rw [hbd]; exact HLn.out.2))
    rw [hbs] at HP
    have HC11 := hid (HC1.out.low hb1)
    have HC21 := hid (HC2.out.low hb1)
    have HB1 := hid hb1
    clear hF hb1 hbs hbl hbd bs HC1 HC2
    go_wp2_with fail
    rw [HKw.out]
    refine HP.out.mono ?_
    rintro e w2 ⟨l, al, cl, rfl, hv, hlc, hc, hb2⟩
    have HV := hid hv
    have HLc := hid (And.intro hlc (ver_short hv))
    have HL2 := hid hc
    have HC12 := hid (HC11.out.low hb2)
    have HC22 := hid (HC21.out.low hb2)
    have HB2 := hid (HB1.out.trans (hb2.mono HB1.out.size))
    clear hv hlc hc hb2 HP HC11 HC21 HB1 HKw
    go_wp2_with fail
    refine (pverify_ok l al a1 a2 cl k1 k2 A D Wn w2 (by have := HLc.out; have := HLn.out; omega) HLc.out.1 HL2.out (by have := HLn.out; omega) (by have := HLn.out; omega) HHA.out.1 HHD.out.1 HHA.out.2 HHD.out.2.1 HC12.out HC22.out HK.out.1.1 HK.out.1.2 HV.out).mono ?_
    rintro e w3 ⟨rfl, hb3⟩
    have HC13 := hid (HC12.out.low hb3)
    have HC23 := hid (HC22.out.low hb3)
    have HL3 := hid (HL2.out.low hb3)
    have HB3 := hid (HB2.out.trans (hb3.mono HB2.out.size))
    clear hb3 HC12 HC22 HL2 HB2
    go_wp2_with fail
    refine (lliterals_yes l al cl a2 k2 D w3 (by have := HLc.out; have := HLn.out; omega) HLc.out.1 HL3.out (by have := HLn.out; have := HHD.out.2.2; unfold maxLen at this; omega) HHD.out.1 HHD.out.2.1 HC23.out (ver_lits HV.out (by have := HLn.out; omega))).mono ?_
    rintro e w4 ⟨v, rfl, hown, hb4⟩
    obtain ⟨qa, qc, rfl⟩ := own_slice hown
    have HQ4 := hid (own_data hown).2
    have HC14 := hid (HC13.out.low hb4)
    have HC24 := hid (HC23.out.low hb4)
    have HL4 := hid (HL3.out.low hb4)
    have HB4 := hid (HB3.out.trans (hb4.mono HB3.out.size))
    clear hown hb4 HC13 HC23 HL3 HB3
    go_wp2_with fail
    refine (rgnew_ok Wn k1 a1 A w4 (by have := HK.out.1.1; omega) (by have := HK.out.1.2; omega) (by have := HLn.out; omega) HHA.out.1 HHA.out.2 HC14.out).mono ?_
    rintro e w5 ⟨rb, row, rfl, hR5, hb5⟩
    have hrow : ∀ r, row = some r → w4.heap.size ≤ r := fun r e => (hR5.row0 r e).1
    have HRn := hid (xrun_ok w4.heap.size rb row A D Wn l al qa cl qc w5 hR5 HV.out (by have := HLn.out; omega) (by have := HLn.out; omega) (by have := HLc.out; have := HLn.out; omega) HLc.out.1 (HL4.out.low hb5) (fun h0 x hx => by
      subst hx
      obtain ⟨s, hs⟩ : ∃ s, l[0]? = some s := ⟨l[0], by simp [h0]⟩
      obtain ⟨b, o, e, h3, _⟩ := HL4.out (0 * 3 + 0) (.int .i64 s.lit) (by rw [sqc_get hs 0 (by omega)]; rfl)
      cases e
      exact h3) HQ4.out.1 HQ4.out.2.1 (HQ4.out.2.2.2.low hb5))
    have HF5 := hid (And.intro hrow (And.intro hR5.rb0 hb5))
    clear hrow hR5 hb5 HC14 HL4 HQ4
    go_wp2_with fail
    refine HRn.out.mono ?_
    rintro e w6 ⟨v, row', rfl, hown, hR6, hT6⟩
    obtain ⟨oa, oc, rfl⟩ := own_slice hown
    have hb6 : Below w4.heap.size w4 w6 := HF5.out.2.2.trans (hT6.below HF5.out.2.2.size HF5.out.2.1 HF5.out.1)
    obtain ⟨q, hq⟩ : ∃ q, q = D.length - Wn := ⟨_, rfl⟩
    have HC26 := hid (HC24.out.low hb6)
    have HB6 := hid (HB4.out.trans (hb6.mono HB4.out.size))
    have HO6 := hid ((Sl.of_owns hown).cells' rfl)
    have HLa := hid (fun (w' : World) (hb : Below w6.heap.size w6 w') => rglast_data w4.heap.size rb row' A D Wn q w' (hR6.below hb) hq)
    have hqD : q ≤ D.length := by omega
    have hlnD := HLn.out.2
    have hw1 : IntKind.i64.wrap ((D.length : Int) - (Wn : Int)) = (D.length : Int) - (Wn : Int) := by have := HK.out.1; rw [IntKind.wrap_i64]; omega
    have hmax : max ((D.length : Int) - (Wn : Int)) 0 = (q : Int) := by omega
    have hcut : ∀ W, (Instr.slice 22 (.slice a2 D.length k2) (some (.int .i64 (q : Int))) none none).run Tryz.prog W = .ok (.slice (cutA a2 k2 q 1) (D.length - q) (k2 - q)) W := fun W => cut_u8_lo a2 D.length k2 q hqD W
    have hdq : (D.drop q).length = D.length - q := List.length_drop
    have HC27 := hid (show CellsAt w6 (cutA a2 k2 q 1) ((D.drop q).map bv) from by
      have h5 := cutA_cells HC26.out k2 q (D.drop q).length (fun _ h6 => by have := HHD.out.1; omega)
      rwa [List.take_length] at h5)
    have HDq := hid hdq
    clear hown hR6 hT6 hb6 HC24 HB4 HF5 HRn hqD hlnD hdq hq HHA HHD HLn HV HLc HK HK3
    go_wp2_with fail
    refine wp_region_noPanic ?_
    refine wp_region_held_drew (S := (fun W' => Below w6.heap.size w6 W')) (by kernel_rfl) (Below.refl w6.heap.size w6).drew (fun hHeld => ?_)
    refine wpAnyH_take (i := 0) (v := .int .i64 0) (by simp only [List.getElem?_toArray, List.getElem?_cons_zero]; rfl) (by kernel_rfl) (by kernel_rfl) (by kernel_rfl) (fun _ _ _ h => h) (Or.inl ⟨by rfl, fun W hSw => ?_⟩) (by assumption) ?_
    · clear hSw
      go_simp
    simp only [Act.put, List.setIfInBounds_toArray, List.set_cons_zero, List.set_cons_succ]
    refine wpAnyH_take (i := 1) (v := .bool true) (by simp only [List.getElem?_toArray, List.getElem?_cons_zero, List.getElem?_cons_succ]; rfl) (by kernel_rfl) (by kernel_rfl) (by kernel_rfl) (fun _ _ _ h => h) (Or.inl ⟨by rfl, fun W hSw => ?_⟩) (by assumption) ?_
    · clear hSw
      go_simp
    simp only [Act.put, List.setIfInBounds_toArray, List.set_cons_zero, List.set_cons_succ]
    refine wpAnyH_take (i := 2) (v := .bool true) (by simp only [List.getElem?_toArray, List.getElem?_cons_zero, List.getElem?_cons_succ]; rfl) (by kernel_rfl) (by kernel_rfl) (by kernel_rfl) (fun _ _ _ h => h) (Or.inl ⟨by rfl, fun W hSw => ?_⟩) (by assumption) ?_
    · clear hSw
      go_simp
    simp only [Act.put, List.setIfInBounds_toArray, List.set_cons_zero, List.set_cons_succ]
    refine wpAnyH_take (i := 3) (v := .slice oa D.length oc) (by simp only [List.getElem?_toArray, List.getElem?_cons_zero, List.getElem?_cons_succ]; rfl) (by kernel_rfl) (by kernel_rfl) (by kernel_rfl) (fun _ _ _ h => h) (Or.inl ⟨by rfl, fun W hSw => ?_⟩) (by assumption) ?_
    · clear hSw
      go_simp
    simp only [Act.put, List.setIfInBounds_toArray, List.set_cons_zero, List.set_cons_succ]
    refine wpAnyH_take (i := 4) (v := .string ⟨D.toArray⟩) (by simp only [List.getElem?_toArray, List.getElem?_cons_zero, List.getElem?_cons_succ]; rfl) (by kernel_rfl) (by kernel_rfl) (by kernel_rfl) (fun _ _ _ h => h) (Or.inl ⟨by rfl, fun W hSw => ?_⟩) (by assumption) ?_
    · have hst := run_str (P := Tryz.prog) W 22 9 5 Tryz.underlying22 Tryz.underlying5 Tryz.underlying9 oa D.length oc D rfl (HO6.out.low hSw)
      go_simp
    simp only [Act.put, List.setIfInBounds_toArray, List.set_cons_zero, List.set_cons_succ]
    refine wpAnyH_take (i := 5) (v := .slice a2 D.length k2) (by simp only [List.getElem?_toArray, List.getElem?_cons_zero, List.getElem?_cons_succ]; rfl) (by kernel_rfl) (by kernel_rfl) (by kernel_rfl) (fun _ _ _ h => h) (Or.inl ⟨by rfl, fun W hSw => ?_⟩) (by assumption) ?_
    · clear hSw
      go_simp
    simp only [Act.put, List.setIfInBounds_toArray, List.set_cons_zero, List.set_cons_succ]
    refine wpAnyH_take (i := 6) (v := .string ⟨D.toArray⟩) (by simp only [List.getElem?_toArray, List.getElem?_cons_zero, List.getElem?_cons_succ]; rfl) (by kernel_rfl) (by kernel_rfl) (by kernel_rfl) (fun _ _ _ h => h) (Or.inl ⟨by rfl, fun W hSw => ?_⟩) (by assumption) ?_
    · have hst := run_str (P := Tryz.prog) W 22 9 5 Tryz.underlying22 Tryz.underlying5 Tryz.underlying9 a2 D.length k2 D rfl (HC26.out.low hSw)
      go_simp
    simp only [Act.put, List.setIfInBounds_toArray, List.set_cons_zero, List.set_cons_succ]
    refine wpAnyH_take (i := 7) (v := .bool true) (by simp only [List.getElem?_toArray, List.getElem?_cons_zero, List.getElem?_cons_succ]; rfl) (by kernel_rfl) (by kernel_rfl) (by kernel_rfl) (fun _ _ _ h => h) (Or.inl ⟨by rfl, fun W hSw => ?_⟩) (by assumption) ?_
    · clear hSw
      go_simp
    simp only [Act.put, List.setIfInBounds_toArray, List.set_cons_zero, List.set_cons_succ]
    refine wpAnyH_take (i := 8) (v := .bool true) (by simp only [List.getElem?_toArray, List.getElem?_cons_zero, List.getElem?_cons_succ]; rfl) (by kernel_rfl) (by kernel_rfl) (by kernel_rfl) (fun _ _ _ h => h) (Or.inl ⟨by rfl, fun W hSw => ?_⟩) (by assumption) ?_
    · clear hSw
      go_simp
    simp only [Act.put, List.setIfInBounds_toArray, List.set_cons_zero, List.set_cons_succ]
    refine wpAnyH_take (i := 9) (v := .bool true) (by simp only [List.getElem?_toArray, List.getElem?_cons_zero, List.getElem?_cons_succ]; rfl) (by kernel_rfl) (by kernel_rfl) (by kernel_rfl) (fun _ _ _ h => h) (Or.inl ⟨by rfl, fun W hSw => ?_⟩) (by assumption) ?_
    · clear hSw
      go_simp
    simp only [Act.put, List.setIfInBounds_toArray, List.set_cons_zero, List.set_cons_succ]
    refine wpAnyH_take (i := 10) (v := .pointer (some ⟨rb, 0, none⟩)) (by simp only [List.getElem?_toArray, List.getElem?_cons_zero, List.getElem?_cons_succ]; rfl) (by kernel_rfl) (by kernel_rfl) (by kernel_rfl) (fun _ _ _ h => h) (Or.inl ⟨by rfl, fun W hSw => ?_⟩) (by assumption) ?_
    · clear hSw
      go_simp
    simp only [Act.put, List.setIfInBounds_toArray, List.set_cons_zero, List.set_cons_succ]
    refine wpAnyH_take (i := 11) (v := .slice a2 D.length k2) (by simp only [List.getElem?_toArray, List.getElem?_cons_zero, List.getElem?_cons_succ]; rfl) (by kernel_rfl) (by kernel_rfl) (by kernel_rfl) (fun _ _ _ h => h) (Or.inl ⟨by rfl, fun W hSw => ?_⟩) (by assumption) ?_
    · clear hSw
      go_simp
    simp only [Act.put, List.setIfInBounds_toArray, List.set_cons_zero, List.set_cons_succ]
    refine wpAnyH_take (i := 12) (v := .int .i64 (D.length : Int)) (by simp only [List.getElem?_toArray, List.getElem?_cons_zero, List.getElem?_cons_succ]; rfl) (by kernel_rfl) (by kernel_rfl) (by kernel_rfl) (fun _ _ _ h => h) (Or.inl ⟨by rfl, fun W hSw => ?_⟩) (by assumption) ?_
    · clear hSw
      go_simp
    simp only [Act.put, List.setIfInBounds_toArray, List.set_cons_zero, List.set_cons_succ]
    refine wpAnyH_take (i := 15) (v := .slice a2 D.length k2) (by simp only [List.getElem?_toArray, List.getElem?_cons_zero, List.getElem?_cons_succ]; rfl) (by kernel_rfl) (by kernel_rfl) (by kernel_rfl) (fun _ _ _ h => h) (Or.inl ⟨by rfl, fun W hSw => ?_⟩) (by assumption) ?_
    · clear hSw
      go_simp
    simp only [Act.put, List.setIfInBounds_toArray, List.set_cons_zero, List.set_cons_succ]
    refine wpAnyH_take (i := 16) (v := .slice a2 D.length k2) (by simp only [List.getElem?_toArray, List.getElem?_cons_zero, List.getElem?_cons_succ]; rfl) (by kernel_rfl) (by kernel_rfl) (by kernel_rfl) (fun _ _ _ h => h) (Or.inl ⟨by rfl, fun W hSw => ?_⟩) (by assumption) ?_
    · clear hSw
      go_simp
    simp only [Act.put, List.setIfInBounds_toArray, List.set_cons_zero, List.set_cons_succ]
    refine wpAnyH_take (i := 17) (v := .int .i64 (D.length : Int)) (by simp only [List.getElem?_toArray, List.getElem?_cons_zero, List.getElem?_cons_succ]; rfl) (by kernel_rfl) (by kernel_rfl) (by kernel_rfl) (fun _ _ _ h => h) (Or.inl ⟨by rfl, fun W hSw => ?_⟩) (by assumption) ?_
    · clear hSw
      go_simp
    simp only [Act.put, List.setIfInBounds_toArray, List.set_cons_zero, List.set_cons_succ]
    refine wpAnyH_take (i := 18) (v := .int .i64 (Wn : Int)) (by simp only [List.getElem?_toArray, List.getElem?_cons_zero, List.getElem?_cons_succ]; rfl) (by kernel_rfl) (by kernel_rfl) (by kernel_rfl) (fun _ _ _ h => h) (Or.inl ⟨by rfl, fun W hSw => ?_⟩) (by assumption) ?_
    · clear hSw
      go_simp
    simp only [Act.put, List.setIfInBounds_toArray, List.set_cons_zero, List.set_cons_succ]
    refine wpAnyH_take (i := 19) (v := .int .i64 ((D.length : Int) - (Wn : Int))) (by simp only [List.getElem?_toArray, List.getElem?_cons_zero, List.getElem?_cons_succ]; rfl) (by kernel_rfl) (by kernel_rfl) (by kernel_rfl) (fun _ _ _ h => h) (Or.inl ⟨by rfl, fun W hSw => ?_⟩) (by assumption) ?_
    · clear hSw
      go_simp
    simp only [Act.put, List.setIfInBounds_toArray, List.set_cons_zero, List.set_cons_succ]
    refine wpAnyH_take (i := 20) (v := .int .i64 (q : Int)) (by simp only [List.getElem?_toArray, List.getElem?_cons_zero, List.getElem?_cons_succ]; rfl) (by kernel_rfl) (by kernel_rfl) (by kernel_rfl) (fun _ _ _ h => h) (Or.inl ⟨by rfl, fun W hSw => ?_⟩) (by assumption) ?_
    · clear hSw
      go_simp
    simp only [Act.put, List.setIfInBounds_toArray, List.set_cons_zero, List.set_cons_succ]
    refine wpAnyH_take (i := 21) (v := .slice (cutA a2 k2 q 1) (D.length - q) (k2 - q)) (by simp only [List.getElem?_toArray, List.getElem?_cons_zero, List.getElem?_cons_succ]; rfl) (by kernel_rfl) (by kernel_rfl) (by kernel_rfl) (fun _ _ _ h => h) (Or.inl ⟨by rfl, fun W hSw => ?_⟩) (by assumption) ?_
    · clear hSw
      go_simp
    simp only [Act.put, List.setIfInBounds_toArray, List.set_cons_zero, List.set_cons_succ]
    refine wpAnyH_take (i := 22) (v := .string ⟨(D.drop q).toArray⟩) (by simp only [List.getElem?_toArray, List.getElem?_cons_zero, List.getElem?_cons_succ]; rfl) (by kernel_rfl) (by kernel_rfl) (by kernel_rfl) (fun _ _ _ h => h) (Or.inl ⟨by rfl, fun W hSw => ?_⟩) (by assumption) ?_
    · have hst := run_str (P := Tryz.prog) W 22 9 5 Tryz.underlying22 Tryz.underlying5 Tryz.underlying9 (cutA a2 k2 q 1) (D.length - q) (k2 - q) (D.drop q) HDq.out (HC27.out.low hSw)
      go_simp
    simp only [Act.put, List.setIfInBounds_toArray, List.set_cons_zero, List.set_cons_succ]
    refine wpAnyH_ready (rs := [13]) (by kernel_rfl) (by simp) ?_
    refine AllReadyH.cons (by simp only [List.getElem?_toArray, List.getElem?_cons_zero, List.getElem?_cons_succ]; rfl) (fun K hK => ?_) AllReadyH.nil
    rw [if_pos (by rfl)]
    go_simp
    go_at_call 11
    refine (HLa.out w6.drew (Below.refl w6.heap.size w6).drew).mono ?_
    rintro e w7 ⟨v, rfl, hown, hb⟩
    obtain ⟨b8, d8, rfl⟩ := own_slice hown
    have hst3 := run_str (P := Tryz.prog) w7 22 9 5 Tryz.underlying22 Tryz.underlying5 Tryz.underlying9 b8 (D.length - q) d8 (D.drop q) HDq.out ((Sl.of_owns hown).cells' rfl)
    have hb7 := (Below.refl w6.heap.size w6).drew.trans hb
    dsimp only
    refine hK.out _ _ hb7 (fun _ => ?_)
    clear hK K hown hb
    refine wpAnyH_ready (rs := [14]) (by kernel_rfl) (by simp) ?_
    refine AllReadyH.cons (by simp only [List.getElem?_toArray, List.getElem?_cons_zero, List.getElem?_cons_succ]; rfl) (fun K hK => ?_) AllReadyH.nil
    rw [if_pos (by rfl)]
    go_simp
    refine hK.out _ _ hb7 (fun _ => ?_)
    clear hK K
    refine wpAnyH_ready (rs := [23]) (by kernel_rfl) (by simp) ?_
    refine AllReadyH.cons (by simp only [List.getElem?_toArray, List.getElem?_cons_zero, List.getElem?_cons_succ]; rfl) (fun K hK => ?_) AllReadyH.nil
    rw [if_pos (by rfl)]
    go_simp
    refine hK.out _ _ hb7 (fun _ => ?_)
    clear hK K
    refine wpAnyH_ready (rs := [24]) (by kernel_rfl) (by simp) ?_
    refine AllReadyH.cons (by simp only [List.getElem?_toArray, List.getElem?_cons_zero, List.getElem?_cons_succ]; rfl) (fun K hK => ?_) AllReadyH.nil
    rw [if_pos (by rfl)]
    go_simp
    refine hK.out _ _ hb7 (fun _ => ?_)
    clear hK K
    refine wpAnyH_ready (rs := [25]) (by kernel_rfl) (by simp) ?_
    refine AllReadyH.cons (by simp only [List.getElem?_toArray, List.getElem?_cons_zero, List.getElem?_cons_succ]; rfl) (fun K hK => ?_) AllReadyH.nil
    rw [if_pos (by rfl)]
    go_simp
    refine hK.out _ _ hb7 (fun _ => ?_)
    clear hK K
    refine wpAnyH_ready (rs := [26]) (by kernel_rfl) (by simp) ?_
    refine AllReadyH.cons (by simp only [List.getElem?_toArray, List.getElem?_cons_zero, List.getElem?_cons_succ]; rfl) (fun K hK => ?_) AllReadyH.nil
    rw [if_pos (by rfl)]
    go_simp
    go_at_call 4
    refine (HW.out _).mono ?_
    rintro e w8 ⟨rfl, hb⟩
    have hb8 := hb7.trans (hb.mono hb7.size)
    dsimp only
    refine hK.out _ _ hb8 (fun _ => ?_)
    clear hK K hb
    refine wpAnyH_ready (rs := [27]) (by kernel_rfl) (by simp) ?_
    refine AllReadyH.cons (by simp only [List.getElem?_toArray, List.getElem?_cons_zero, List.getElem?_cons_succ]; rfl) (fun K hK => ?_) AllReadyH.nil
    rw [if_pos (by rfl)]
    go_simp
    refine hK.out _ _ hb8 (fun _ => ?_)
    clear hK K
    refine wpAnyH_ready (rs := [28]) (by kernel_rfl) (by simp) ?_
    refine AllReadyH.cons (by simp only [List.getElem?_toArray, List.getElem?_cons_zero, List.getElem?_cons_succ]; rfl) (fun K hK => ?_) AllReadyH.nil
    rw [if_pos (by rfl)]
    go_simp
    refine hK.out _ _ hb8 (fun _ => ?_)
    clear hK K
    refine wpAnyH_done (by kernel_rfl) ?_ _
    refine NoPanic.normal ?_
    go_wp2
    go_ret
    exact ⟨rfl, HB6.out.trans (hb8.mono HB6.out.size)⟩
  · go_enter Tryz.func3, Tryz.ntmps3
    go_wp2_with fail
    refine (cnew_bad a1 a2 A.length D.length k1 k2 W dep w (by simpa using hfk)).mono ?_
    rintro e w' ⟨rfl, rfl⟩
    go_wp2_with (go_at_call 4; refine (HW.out _).mono ?_; rintro e w' ⟨rfl, hb⟩)
    go_ret
    exact ⟨rfl, hb⟩
end Go.Proofs.YtlgablepckmogaaGreat
namespace Go.Proofs.YtlgablepckmogaaGreat.LTopParses
open Go.ChangeShapes Go.WideShapes Go.ChangeAt Go.RowKit Go.Port
set_option maxRecDepth 100000 in
theorem lifted (os : Os) (started : os.Started) (H : Type) (enc : TypeId × Value → H) :
    ReturnsInHanded {} Tryz.checked os 3 .any (Rows.topParsesSpec.pre6 enc Tryz.prog Tryz.f3 Rows.topParsesRow.domain false) (Rows.topParsesSpec.post enc Tryz.prog Tryz.f3 false true false false) := by
  refine returnsInHanded_of_change (C := Tryz.checked) Tryz.own started (by kernel_rfl) Tryz.func3
    (ChangeSpec.witness6 (enc := enc) (C := Tryz.checked) false ⟨#[], #[.slice none 0 0, .slice none 0 0, .int .i64 0, .int .i64 0, .int .i64 0], []⟩ 8 (by kernel_rfl) (by kernel_rfl) (by kernel_rfl) (by kernel_rfl)) ?_
  intro W base args ds gs before hval0 hW hcnd _
  have hval : ∀ (j : Nat) t v, Tryz.f3.params[j]? = some t → args[j]? = some v → Value.okWide Tryz.prog W .any base t v := hval0
  have hW' := hW
  obtain ⟨p, q, hA0, hV, rfl, hfz, hnd⟩ := hW
  have hA : DataW.TrodAll enc Tryz.prog W 0 (fun _ => true) true Tryz.f3.params.toList args.toList ds p := hA0
  rw [Tryz.params3] at hA hval
  obtain ⟨v0, vs0, d0, ds0, p0, q0, hargs, rfl, rfl, h0, r0⟩ := trodAll_cons hA
  obtain ⟨v1, vs1, d1, ds1, p1, q1, rfl, rfl, rfl, h1, r1⟩ := trodAll_cons r0
  obtain ⟨v2, vs2, d2, ds2, p2, q2, rfl, rfl, rfl, h2, r2⟩ := trodAll_cons r1
  obtain ⟨v3, vs3, d3, ds3, p3, q3, rfl, rfl, rfl, h3, r3⟩ := trodAll_cons r2
  obtain ⟨v4, vs4, d4, ds4, p4, q4, rfl, rfl, rfl, h4, r4⟩ := trodAll_cons r3
  obtain ⟨rfl, rfl, rfl⟩ := trodAll_nil r4
  obtain rfl : args = #[v0, v1, v2, v3, v4] := by cases args; simp_all
  obtain ⟨rfl, rfl⟩ := trodVars_none hV
  obtain ⟨l0, hl0, wl0⟩ := open_rowV Tryz.underlying22 Tryz.underlying5 (by kernel_rfl) (hval 0 22 v0 rfl rfl) h0
  obtain ⟨bs0, hbs0, hn0⟩ := bytes_of wl0
  rw [hbs0, ← hn0] at hl0
  obtain ⟨l1, hl1, wl1⟩ := open_rowV Tryz.underlying22 Tryz.underlying5 (by kernel_rfl) (hval 1 22 v1 rfl rfl) h1
  obtain ⟨bs1, hbs1, hn1⟩ := bytes_of wl1
  rw [hbs1, ← hn1] at hl1
  obtain ⟨a2, rfl, rfl, rfl, w2⟩ := open_int Tryz.underlying3 (hval 2 3 v2 rfl rfl) h2
  obtain ⟨a3, rfl, rfl, rfl, w3⟩ := open_int Tryz.underlying3 (hval 3 3 v3 rfl rfl) h3
  obtain ⟨a4, rfl, rfl, rfl, w4⟩ := open_int Tryz.underlying3 (hval 4 3 v4 rfl rfl) h4
  clear hA0 hval0
  simp only [List.append_nil] at hW'
  refine (TopParses_walk W v0 bs0 hl0 v1 bs1 hl1 a2 a3 a4).mono fun e W' ⟨he, hb⟩ => ?_
  subst he
  exact ⟨_, rfl, law_post Tryz.kids Tryz.full Tryz.underlying4 rfl rfl hW' (by rw [Tryz.params3]; decide) rfl rfl rfl hb⟩
theorem over : Rows.topParsesRow.holds Tryz.pinned (OpenSpec.ofChange Rows.topParsesSpec) :=
  OpenClaim.holds_of_wide 3 Tryz.f3 rfl rfl rfl rfl rfl rfl rfl ⟨rfl, rfl, rfl, rfl, rfl⟩ rfl rfl rfl rfl rfl (by kernel_rfl) Tryz.func3 (by kernel_rfl)
    (of_decide_eq_true (by kernel_rfl)) (by unfold Func.isWrapper; first | (rw [if_pos (by decide +kernel)]; kernel_rfl) | (rw [if_neg (by decide +kernel)]; exact ⟨rfl, rfl⟩))
    (fun os started H enc _ => lifted os started H enc)
/-- The statement. -/
theorem proved : Rows.TopParsesSaid :=
  over
end Go.Proofs.YtlgablepckmogaaGreat.LTopParses
