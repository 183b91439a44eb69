/-
  The law PriceNews: for any four slices of at most 300 integers and at most 100 bytes, New accepts exactly the valid histograms, and literals cost what the reference says. No condition.
-/
import Derived.Test.YtolmmfbgljgdcaaPrL
namespace Go.Proofs.Ytolmmfbgljgdcaa
open Go.RowKit Go.Port

theorem lits_none (bs : List UInt8) : litsC (fun _ => []) bs = 2048 * (bs.length : Int) := by
  have h : ∀ s, pcost 0 ([] : List Int) s = 2048 := fun s => by
    unfold pcost psym
    rw [show ([] : List Int).getD s 0 = 0 from by simp, show sbits 0 s = 0 from rfl]
    decide +kernel
  unfold litsC
  induction bs with
  | nil => rfl
  | cons b t ih =>
    rw [List.map_cons, List.sum_cons, h, ih, List.length_cons]
    omega
set_option maxRecDepth 100000 in
set_option maxHeartbeats 8000000 in
theorem PriceNews_walk (w : World) (A : Nat → Option Addr) (cp : Nat → Nat) (C : Nat → List Int) (h : FourAt w A cp C) (v2 : Value) (bs : List UInt8) (h2 : Rs w 1 v2 bs.length (bs.map bv)) :
    Calls Try.prog 3 #[fourV A cp C, v2] w (RetV w (.bool true)) := by
  have HW := hid prworks_any
  obtain ⟨_, a2, k2, rfl, hk2, _, hn2, hcell2⟩ := h2
  have HD0 := hid (show Cs w a2 (bs.map bv) from hcell2)
  clear hk2 hn2 hcell2
  have HX0 := hid (Blk.new w [.slice (A 0) (C 0).length (cp 0), .slice (A 1) (C 1).length (cp 1), .slice (A 2) (C 2).length (cp 2), .slice (A 3) (C 3).length (cp 3)] 23)
  have HB0 := hid (below_new w (.cells #[.slice (A 0) (C 0).length (cp 0), .slice (A 1) (C 1).length (cp 1), .slice (A 2) (C 2).length (cp 2), .slice (A 3) (C 3).length (cp 3)] 23))
  have HFw := hid (fun W => prfew_any A cp C W)
  have HF0 := hid (h.low HB0.out)
  unfold fourV at HFw
  unfold fourV
  clear h
  have c0 := HX0.out.cell (k := 0) rfl
  have c1 := HX0.out.cell (k := 1) rfl
  have c2 := HX0.out.cell (k := 2) rfl
  have c3 := HX0.out.cell (k := 3) rfl
  go_enter Try.func3, Try.ntmps3
  go_wp2_with fail
  clear c0 c1 c2 c3
  generalize w.alloc (.cells #[.slice (A 0) (C 0).length (cp 0), .slice (A 1) (C 1).length (cp 1), .slice (A 2) (C 2).length (cp 2), .slice (A 3) (C 3).length (cp 3)] 23) = w0 at *
  refine (HFw.out _).mono ?_
  rintro e w1 ⟨rfl, hb⟩
  have HX1 := hid (HX0.out.below hb HX0.out.lt)
  have HF1 := hid (HF0.out.low hb)
  have HB1 := hid (HB0.out.trans (hb.mono HB0.out.size))
  clear hb HX0 HF0 HB0
  cases hfew : fewB C
  · go_wp2_with (go_at_call 11; refine (HW.out _).mono ?_; rintro e w' ⟨rfl, hb⟩)
    go_ret
    exact ⟨rfl, HB1.out.trans (hb.mono HB1.out.size)⟩
  · by_cases hlim : (bs.length : Int) ≤ 100
    rotate_left
    · go_wp2_with (go_at_call 11; refine (HW.out _).mono ?_; rintro e w' ⟨rfl, hb⟩)
      go_ret
      exact ⟨rfl, HB1.out.trans (hb.mono HB1.out.size)⟩
    have c0 := HX1.out.cell (k := 0) rfl
    have c1 := HX1.out.cell (k := 1) rfl
    have c2 := HX1.out.cell (k := 2) rfl
    have c3 := HX1.out.cell (k := 3) rfl
    go_wp2_with fail
    clear c0 c1 c2 c3 HX1
    by_cases hok : ∀ k, k < 4 → HistOk k (C k)
    rotate_left
    · have HBo := hid (prboth_bad A cp C w1 HF1.out hok)
      unfold fourV at HBo
      refine HBo.out.mono ?_
      rintro e w2 ⟨rfl, hb⟩
      have HB2 := hid (HB1.out.trans (hb.mono HB1.out.size))
      have HB3 := hid (HB2.out.trans ((below_new w2 (.cells #[.slice none 0 0, .slice none 0 0, .slice none 0 0, .slice none 0 0] 29)).mono HB2.out.size))
      clear hb HBo HF1 HFw hok
      go_wp2_with fail
      refine (prlits_none _ none (Or.inl rfl) _).mono ?_
      rintro e w' ⟨rfl, rfl⟩
      go_wp2_with (go_at_call 11; refine (HW.out _).mono ?_; rintro e w' ⟨rfl, hb⟩)
      go_ret
      exact ⟨rfl, HB3.out.trans (hb.mono HB3.out.size)⟩
    have HBo := hid (prboth_ok A cp C w1 HF1.out hok)
    unfold fourV at HBo
    refine HBo.out.mono ?_
    rintro e w2 ⟨M, rfl, hp, hb⟩
    have HB2 := hid (HB1.out.trans (hb.mono HB1.out.size))
    have HBn := hid (below_new w2 (.cells #[.slice (A 0) (C 0).length (cp 0), .slice (A 1) (C 1).length (cp 1), .slice (A 2) (C 2).length (cp 2), .slice (A 3) (C 3).length (cp 3)] 29))
    have HB3 := hid (HB2.out.trans (HBn.out.mono HB2.out.size))
    have HP3 := hid (hp.low HBn.out)
    have HR3 := hid (show RfAt (w2.alloc (.cells #[.slice (A 0) (C 0).length (cp 0), .slice (A 1) (C 1).length (cp 1), .slice (A 2) (C 2).length (cp 2), .slice (A 3) (C 3).length (cp 3)] 29)) A cp C from ⟨(HF1.out.low hb).low HBn.out, hok⟩)
    have HX3 := hid (Blk.new w2 [.slice (A 0) (C 0).length (cp 0), .slice (A 1) (C 1).length (cp 1), .slice (A 2) (C 2).length (cp 2), .slice (A 3) (C 3).length (cp 3)] 29)
    clear hb hp HBo HBn HF1 HFw hok HB2
    have hbl : bs.length ≤ 1000000 := by omega
    have hwr : IntKind.i64.wrap (2048 * (bs.length : Int)) = 2048 * (bs.length : Int) := by rw [IntKind.wrap_i64]; omega
    have HD3 := hid (HD0.out.low HB3.out)
    have HL1 := hid (fun W (hW : PrAt W M C) (hc : Cs W a2 (bs.map bv)) => prlits_any W M C hW a2 k2 bs hbl hc)
    have HR1 := hid (fun W (hW : RfAt W A cp C) (hc : Cs W a2 (bs.map bv)) => rlits_any A cp C W hW a2 k2 bs hbl hc)
    have HU1 := hid (fun W M (hW : PrAt W M noC) (hc : Cs W a2 (bs.map bv)) => show Calls Try.prog 13 #[.pointer (some ⟨M, 0, none⟩), .slice a2 bs.length k2] W (fun e w' => e = .returned (.int .i64 (2048 * (bs.length : Int))) ∧ W = w') from lits_none bs ▸ prlits_any W M noC hW a2 k2 bs hbl hc)
    unfold fourV at HR1
    generalize litsC C bs = x at *
    clear hbl HD0
    go_upto_region 8 with fail
    generalize hw3 : w2.alloc (.cells #[.slice (A 0) (C 0).length (cp 0), .slice (A 1) (C 1).length (cp 1), .slice (A 2) (C 2).length (cp 2), .slice (A 3) (C 3).length (cp 3)] 29) = w3 at *
    clear hw3
    have hX3lt := HX3.out.lt
    have hb3 := Below.refl w3.heap.size w3
    refine wp_region_noPanic ?_
    refine wp_region_held_drew (S := fun W' => Below w3.heap.size w3 W') (by kernel_rfl) hb3.drew (fun hHeld => ?_)
    refine wpAnyH_take (i := 0) (v := .pointer (some ⟨M, 0, none⟩)) (by simp only [List.getElem?_toArray, List.getElem?_cons_zero]; rfl) (by kernel_rfl) (by kernel_rfl) (by kernel_rfl) (fun _ _ _ h => h) (Or.inl ⟨by rfl, fun W hSw => ?_⟩) (by assumption) ?_
    · clear hSw
      go_simp
    simp only [Act.put, List.setIfInBounds_toArray, List.set_cons_zero, List.set_cons_succ]
    refine wpAnyH_take (i := 1) (v := .slice a2 bs.length k2) (by simp only [List.getElem?_toArray, List.getElem?_cons_zero, List.getElem?_cons_succ]; rfl) (by kernel_rfl) (by kernel_rfl) (by kernel_rfl) (fun _ _ _ h => h) (Or.inl ⟨by rfl, fun W hSw => ?_⟩) (by assumption) ?_
    · clear hSw
      go_simp
    simp only [Act.put, List.setIfInBounds_toArray, List.set_cons_zero, List.set_cons_succ]
    refine wpAnyH_take (i := 3) (v := .agg #[.slice (A 0) (C 0).length (cp 0), .slice (A 1) (C 1).length (cp 1), .slice (A 2) (C 2).length (cp 2), .slice (A 3) (C 3).length (cp 3)]) (by simp only [List.getElem?_toArray, List.getElem?_cons_zero, List.getElem?_cons_succ]; rfl) (by kernel_rfl) (by kernel_rfl) (by kernel_rfl) (fun _ _ _ h => h) (Or.inl ⟨by rfl, fun W hSw => ?_⟩) (by assumption) ?_
    · have hcw0 := (hSw.cell (p := ⟨w2.heap.size, 0, none⟩) hX3lt).trans (HX3.out.cell (k := 0) rfl)
      have hcw1 := (hSw.cell (p := ⟨w2.heap.size, 1, none⟩) hX3lt).trans (HX3.out.cell (k := 1) rfl)
      have hcw2 := (hSw.cell (p := ⟨w2.heap.size, 2, none⟩) hX3lt).trans (HX3.out.cell (k := 2) rfl)
      have hcw3 := (hSw.cell (p := ⟨w2.heap.size, 3, none⟩) hX3lt).trans (HX3.out.cell (k := 3) rfl)
      go_simp
    simp only [Act.put, List.setIfInBounds_toArray, List.set_cons_zero, List.set_cons_succ]
    refine wpAnyH_take (i := 4) (v := .slice a2 bs.length k2) (by simp only [List.getElem?_toArray, List.getElem?_cons_zero, List.getElem?_cons_succ]; rfl) (by kernel_rfl) (by kernel_rfl) (by kernel_rfl) (fun _ _ _ h => h) (Or.inl ⟨by rfl, fun W hSw => ?_⟩) (by assumption) ?_
    · clear hSw
      go_simp
    simp only [Act.put, List.setIfInBounds_toArray, List.set_cons_zero, List.set_cons_succ]
    refine wpAnyH_ready (rs := [2]) (by kernel_rfl) (by simp) ?_
    refine AllReadyH.cons (by simp only [List.getElem?_toArray, List.getElem?_cons_zero, List.getElem?_cons_succ]; rfl) (fun K hK => ?_) AllReadyH.nil
    rw [if_pos (by rfl)]
    go_simp
    go_at_call 13
    refine (HL1.out _ (HP3.out.low hb3.drew) (HD3.out.low hb3.drew)).mono ?_
    rintro e w' ⟨rfl, rfl⟩
    dsimp only
    refine hK.out _ _ hb3.drew (fun _ => ?_)
    clear hK K
    refine wpAnyH_ready (rs := [5]) (by kernel_rfl) (by simp) ?_
    refine AllReadyH.cons (by simp only [List.getElem?_toArray, List.getElem?_cons_zero, List.getElem?_cons_succ]; rfl) (fun K hK => ?_) AllReadyH.nil
    rw [if_pos (by rfl)]
    go_simp
    go_at_call 14
    refine (HR1.out _ (HR3.out.low hb3.drew) (HD3.out.low hb3.drew)).mono ?_
    rintro e w4 ⟨rfl, hb⟩
    have hb4 := hb3.drew.trans (hb.mono hb3.drew.size)
    dsimp only
    refine hK.out _ _ hb4 (fun _ => ?_)
    clear hK K hb
    refine wpAnyH_take (i := 6) (v := .bool true) (by simp only [List.getElem?_toArray, List.getElem?_cons_zero, List.getElem?_cons_succ]; rfl) (by kernel_rfl) (by kernel_rfl) (by kernel_rfl) (fun _ _ _ h => h) (Or.inl ⟨by rfl, fun W hSw => ?_⟩) (by assumption) ?_
    · clear hSw
      go_simp
    simp only [Act.put, List.setIfInBounds_toArray, List.set_cons_zero, List.set_cons_succ]
    refine wpAnyH_take (i := 7) (v := .bool true) (by simp only [List.getElem?_toArray, List.getElem?_cons_zero, List.getElem?_cons_succ]; rfl) (by kernel_rfl) (by kernel_rfl) (by kernel_rfl) (fun _ _ _ h => h) (Or.inl ⟨by rfl, fun W hSw => ?_⟩) (by assumption) ?_
    · clear hSw
      go_simp
    simp only [Act.put, List.setIfInBounds_toArray, List.set_cons_zero, List.set_cons_succ]
    refine wpAnyH_take (i := 9) (v := .slice a2 bs.length k2) (by simp only [List.getElem?_toArray, List.getElem?_cons_zero, List.getElem?_cons_succ]; rfl) (by kernel_rfl) (by kernel_rfl) (by kernel_rfl) (fun _ _ _ h => h) (Or.inl ⟨by rfl, fun W hSw => ?_⟩) (by assumption) ?_
    · clear hSw
      go_simp
    simp only [Act.put, List.setIfInBounds_toArray, List.set_cons_zero, List.set_cons_succ]
    refine wpAnyH_take (i := 11) (v := .slice a2 bs.length k2) (by simp only [List.getElem?_toArray, List.getElem?_cons_zero, List.getElem?_cons_succ]; rfl) (by kernel_rfl) (by kernel_rfl) (by kernel_rfl) (fun _ _ _ h => h) (Or.inl ⟨by rfl, fun W hSw => ?_⟩) (by assumption) ?_
    · clear hSw
      go_simp
    simp only [Act.put, List.setIfInBounds_toArray, List.set_cons_zero, List.set_cons_succ]
    refine wpAnyH_take (i := 12) (v := .int .i64 (bs.length : Int)) (by simp only [List.getElem?_toArray, List.getElem?_cons_zero, List.getElem?_cons_succ]; rfl) (by kernel_rfl) (by kernel_rfl) (by kernel_rfl) (fun _ _ _ h => h) (Or.inl ⟨by rfl, fun W hSw => ?_⟩) (by assumption) ?_
    · clear hSw
      go_simp
    simp only [Act.put, List.setIfInBounds_toArray, List.set_cons_zero, List.set_cons_succ]
    refine wpAnyH_take (i := 13) (v := .int .i64 (2048 * (bs.length : Int))) (by simp only [List.getElem?_toArray, List.getElem?_cons_zero, List.getElem?_cons_succ]; rfl) (by kernel_rfl) (by kernel_rfl) (by kernel_rfl) (fun _ _ _ h => h) (Or.inl ⟨by rfl, fun W hSw => ?_⟩) (by assumption) ?_
    · clear hSw
      go_simp
    simp only [Act.put, List.setIfInBounds_toArray, List.set_cons_zero, List.set_cons_succ]
    refine wpAnyH_ready (rs := [8]) (by kernel_rfl) (by simp) ?_
    refine AllReadyH.cons (by simp only [List.getElem?_toArray, List.getElem?_cons_zero, List.getElem?_cons_succ]; rfl) (fun K hK => ?_) AllReadyH.nil
    rw [if_pos (by rfl)]
    go_simp
    go_at_call 15
    refine (pruniform_any _).mono ?_
    rintro e w5 ⟨U, rfl, hp, _, hb⟩
    have HPu := hid hp
    have hb5 := hb4.trans (hb.mono hb4.size)
    dsimp only
    refine hK.out _ _ hb5 (fun _ => ?_)
    clear hK K hb hp
    refine wpAnyH_ready (rs := [10]) (by kernel_rfl) (by simp) ?_
    refine AllReadyH.cons (by simp only [List.getElem?_toArray, List.getElem?_cons_zero, List.getElem?_cons_succ]; rfl) (fun K hK => ?_) AllReadyH.nil
    rw [if_pos (by rfl)]
    go_simp
    go_at_call 13
    refine (HU1.out _ _ HPu.out (HD3.out.low hb5)).mono ?_
    rintro e w' ⟨rfl, rfl⟩
    dsimp only
    refine hK.out _ _ hb5 (fun _ => ?_)
    clear hK K
    refine wpAnyH_take (i := 14) (v := .bool true) (by simp only [List.getElem?_toArray, List.getElem?_cons_zero, List.getElem?_cons_succ]; rfl) (by kernel_rfl) (by kernel_rfl) (by kernel_rfl) (fun _ _ _ h => h) (Or.inl ⟨by rfl, fun W hSw => ?_⟩) (by assumption) ?_
    · clear hSw
      go_simp
    simp only [Act.put, List.setIfInBounds_toArray, List.set_cons_zero, List.set_cons_succ]
    refine wpAnyH_take (i := 15) (v := .bool true) (by simp only [List.getElem?_toArray, List.getElem?_cons_zero, List.getElem?_cons_succ]; rfl) (by kernel_rfl) (by kernel_rfl) (by kernel_rfl) (fun _ _ _ h => h) (Or.inl ⟨by rfl, fun W hSw => ?_⟩) (by assumption) ?_
    · clear hSw
      go_simp
    simp only [Act.put, List.setIfInBounds_toArray, List.set_cons_zero, List.set_cons_succ]
    refine wpAnyH_take (i := 16) (v := .bool true) (by simp only [List.getElem?_toArray, List.getElem?_cons_zero, List.getElem?_cons_succ]; rfl) (by kernel_rfl) (by kernel_rfl) (by kernel_rfl) (fun _ _ _ h => h) (Or.inl ⟨by rfl, fun W hSw => ?_⟩) (by assumption) ?_
    · clear hSw
      go_simp
    simp only [Act.put, List.setIfInBounds_toArray, List.set_cons_zero, List.set_cons_succ]
    refine wpAnyH_ready (rs := [17]) (by kernel_rfl) (by simp) ?_
    refine AllReadyH.cons (by simp only [List.getElem?_toArray, List.getElem?_cons_zero, List.getElem?_cons_succ]; rfl) (fun K hK => ?_) AllReadyH.nil
    rw [if_pos (by rfl)]
    go_simp
    go_at_call 11
    refine (HW.out _).mono ?_
    rintro e w6 ⟨rfl, hb⟩
    have hb6 := hb5.trans (hb.mono hb5.size)
    dsimp only
    refine hK.out _ _ hb6 (fun _ => ?_)
    clear hK K hb
    refine wpAnyH_take (i := 18) (v := .bool true) (by simp only [List.getElem?_toArray, List.getElem?_cons_zero, List.getElem?_cons_succ]; rfl) (by kernel_rfl) (by kernel_rfl) (by kernel_rfl) (fun _ _ _ h => h) (Or.inl ⟨by rfl, fun W hSw => ?_⟩) (by assumption) ?_
    · clear hSw
      go_simp
    simp only [Act.put, List.setIfInBounds_toArray, List.set_cons_zero, List.set_cons_succ]
    refine wpAnyH_ready (rs := [19]) (by kernel_rfl) (by simp) ?_
    refine AllReadyH.cons (by simp only [List.getElem?_toArray, List.getElem?_cons_zero, List.getElem?_cons_succ]; rfl) (fun K hK => ?_) AllReadyH.nil
    rw [if_pos (by rfl)]
    go_simp
    refine hK.out _ _ hb6 (fun _ => ?_)
    clear hK K
    refine wpAnyH_done (by kernel_rfl) ?_ _
    refine NoPanic.normal ?_
    go_wp2
    go_ret
    exact ⟨rfl, HB3.out.trans (hb6.mono HB3.out.size)⟩
end Go.Proofs.Ytolmmfbgljgdcaa
namespace Go.Proofs.Ytolmmfbgljgdcaa.LPriceNews
open Go.ChangeShapes Go.WideShapes Go.ChangeAt Go.RowKit Go.Port

set_option maxRecDepth 100000 in
set_option maxHeartbeats 4000000 in
theorem lifted (os : Os) (started : os.Started) (H : Type) (enc : TypeId × Value → H) :
    ReturnsInHanded {} Try.checked os 3 .any (Rows.priceNewsSpec.pre6 enc Try.prog Try.f3 Rows.priceNewsRow.domain false) (Rows.priceNewsSpec.post enc Try.prog Try.f3 false true false false) := by
  refine returnsInHanded_of_change (C := Try.checked) Try.own started (by kernel_rfl) Try.func3
    (ChangeSpec.witness6 (enc := enc) (C := Try.checked) false ⟨#[], #[.agg #[.slice none 0 0, .slice none 0 0, .slice none 0 0, .slice none 0 0], .slice none 0 0], []⟩ 8 (by kernel_rfl) (by kernel_rfl) (by kernel_rfl) (by kernel_rfl)) ?_
  intro W base args ds gs before hval0 hW hcnd _
  have hval : ∀ (j : Nat) t v, Try.f3.params[j]? = some t → args[j]? = some v → Value.okWide Try.prog W .any base t v := hval0
  have hW' := hW
  obtain ⟨p, q, hA0, hV, rfl, hfz, hnd⟩ := hW
  have hA : DataW.TrodAll enc Try.prog W 0 (fun _ => true) true Try.f3.params.toList args.toList ds p := hA0
  rw [Try.params3] at hA hval
  obtain ⟨v0, vs0, d0, ds0, p0, q0, hargs, rfl, rfl, h0, r0⟩ := trodAll_cons hA
  obtain ⟨v1, vs1, d1, ds1, p1, q1, rfl, rfl, rfl, h1, r1⟩ := trodAll_cons r0
  obtain ⟨rfl, rfl, rfl⟩ := trodAll_nil r1
  obtain rfl : args = #[v0, v1] := by cases args; simp_all
  obtain ⟨rfl, rfl⟩ := trodVars_none hV
  obtain ⟨A0, cp0, C0, rfl, hF0, wF0⟩ := open_four (hval 0 23 v0 rfl rfl) h0
  obtain ⟨l1, hl1, wl1⟩ := open_rowV Try.underlying24 Try.underlying5 (by kernel_rfl) (hval 1 24 v1 rfl rfl) h1
  obtain ⟨bs1, hbs1, hn1⟩ := bytes_of wl1
  rw [hbs1, ← hn1] at hl1
  clear hA0 hval0
  simp only [List.append_nil] at hW'
  refine (PriceNews_walk W A0 cp0 C0 hF0 v1 bs1 hl1).mono fun e W' ⟨he, hb⟩ => ?_
  subst he
  exact ⟨_, rfl, law_post Try.kids Try.full Try.underlying4 rfl rfl hW' (by rw [Try.params3]; decide) rfl rfl rfl hb⟩

theorem over : Rows.priceNewsRow.holds Try.pinned (OpenSpec.ofChange Rows.priceNewsSpec) :=
  OpenClaim.holds_of_wide 3 Try.f3 rfl rfl rfl rfl rfl rfl rfl ⟨rfl, rfl, rfl, rfl, rfl⟩ rfl rfl rfl rfl rfl (by kernel_rfl) Try.func3 (by kernel_rfl)
    (of_decide_eq_true (by kernel_rfl)) (by unfold Func.isWrapper; first | (rw [if_pos (by decide +kernel)]; kernel_rfl) | (rw [if_neg (by decide +kernel)]; exact ⟨rfl, rfl⟩))
    (fun os started H enc _ => lifted os started H enc)

/-- The statement. -/
theorem proved : Rows.PriceNewsSaid :=
  over
end Go.Proofs.Ytolmmfbgljgdcaa.LPriceNews
