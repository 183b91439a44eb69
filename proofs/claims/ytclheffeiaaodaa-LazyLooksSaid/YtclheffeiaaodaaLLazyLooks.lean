/-
  The law LazyLooks: for at most 150 bytes each of history and data, any window, depth and lookahead, the lazy plan is the reference's. No condition.
-/
import Derived.Test.YtclheffeiaaodaaLzL
import Derived.Test.YtclheffeiaaodaaLzR
namespace Go.Proofs.Ytclheffeiaaodaa
open Go.RowKit Go.Port

set_option maxRecDepth 100000 in
set_option maxHeartbeats 4000000 in
theorem LazyLooks_walk (w : World) (v1 : Value) (A : List UInt8) (h1 : Rs w 1 v1 A.length (A.map bv)) (v2 : Value) (D : List UInt8) (h2 : Rs w 1 v2 D.length (D.map bv)) (W dep far : Int) :
    Calls Try.prog 3 #[v1, v2, .int .i64 W, .int .i64 dep, .int .i64 far] w (RetV w (.bool true)) := by
  have HW := hid works_any
  have HM := hid (made_any v1 v2 A D W dep w h1 h2)
  clear h1 h2
  generalize hbs : A ++ D = bs at *
  go_enter Try.func3, Try.ntmps3
  go_wp2_with fail
  refine HM.out.mono ?_
  rintro e w1 (⟨rfl, hb⟩ | ⟨hm, F, a, c, rfl, hF, hC, hac, hb⟩)
  · have HB := hid (hb.alloc hb.size (.cells #[.slice none 0 0, .int .i64 0, .int .i64 0, .int .i64 0] 25))
    unfold fdv
    clear hb HM hbs
    go_wp2_with (go_at_call 12; refine (HW.out _).mono ?_; rintro e w' ⟨rfl, hb⟩)
    go_ret
    exact ⟨rfl, HB.out.trans (hb.mono HB.out.size)⟩
  · have hk := finderOk_bounds hm.hk
    have hA := hm.hA
    have hD := hm.hD
    have hlen : bs.length = A.length + D.length := by rw [← hbs, List.length_append]
    have HFx := hid (hF.low (below_new w1 (.cells (fdc a bs.length c A.length W dep).toArray 25)))
    have HB1 := hid (hb.alloc hb.size (.cells (fdc a bs.length c A.length W dep).toArray 25))
    have HX1 := hid (Blk.new w1 (fdc a bs.length c A.length W dep) 25)
    have HC1 := hid (hC.low (below_new w1 (.cells (fdc a bs.length c A.length W dep).toArray 25)))
    have HG := hid (fun W' hc' => rlook_any bs a c A.length W dep far W' (by omega) hac (by omega) hk.1 hk.2 hc')
    have HPa := hid (fun W' hF' => look_any bs A.length W dep F far W' hF')
    have hL := lazyL_length bs A.length W dep far
    have hln : (seqs (lazyL bs A.length W dep far)).length = (lazyL bs A.length W dep far).length := by unfold seqs; rw [List.length_map]
    rw [← hln] at hL
    generalize seqs (lazyL bs A.length W dep far) = L at *
    have HSm := hid (fun a1 c1 a2 c2 W' h1 h2 => rsame_self a1 a2 c1 c2 L W' (by omega) h1 h2)
    unfold fdc at HFx HB1 HX1 HC1
    unfold fdv at HG ⊢
    have hee : (lazyE far == lazyE far) = true := by simp
    generalize lazyE far = E at *
    clear hF hb hC HM hbs hm hk hA hD hlen hL hln
    have d0 := HX1.out.cell (k := 0) rfl
    have d1 := HX1.out.cell (k := 1) rfl
    have d2 := HX1.out.cell (k := 2) rfl
    have d3 := HX1.out.cell (k := 3) rfl
    go_wp2_with fail
    refine (HPa.out _ HFx.out).mono ?_
    rintro e w2 ⟨v2, rfl, hown, hb⟩
    obtain ⟨a2, c2, rfl⟩ := own_slice hown
    have HL2 := hid ((Sl.of_owns hown).cells' rfl)
    have HB2 := hid (HB1.out.trans (hb.mono HB1.out.size))
    have HX2 := hid (HX1.out.below hb HX1.out.lt)
    have HC2 := hid (HC1.out.low hb)
    clear hown hb d0 d1 d2 d3
    have d0 := HX2.out.cell (k := 0) rfl
    have d1 := HX2.out.cell (k := 1) rfl
    have d2 := HX2.out.cell (k := 2) rfl
    have d3 := HX2.out.cell (k := 3) rfl
    go_wp2_with fail
    refine (HG.out _ HC2.out).mono ?_
    rintro e w3 ⟨v3, rfl, hown, hb⟩
    obtain ⟨a3, c3, rfl⟩ := own_slice hown
    have HL3 := hid ((Sl.of_owns hown).cells' rfl)
    have HK3 := hid (HL2.out.low hb)
    have HB3 := hid (HB2.out.trans (hb.mono HB2.out.size))
    clear hown hb d0 d1 d2 d3 HX2 HC2 HL2
    go_wp2_with fail
    refine (HSm.out a2 c2 a3 c3 _ HK3.out HL3.out).mono ?_
    rintro e w' ⟨rfl, m, rfl⟩
    have HB5 := hid (below_drewN HB3.out m)
    generalize w3.drewN m = w5 at *
    go_wp2_with (first | (go_at_call 16; refine (num_any _ _).mono ?_; rintro e w' ⟨rfl, rfl⟩))
    refine (HW.out _).mono ?_
    rintro e w6 ⟨rfl, hb⟩
    go_wp2
    go_ret
    exact ⟨rfl, HB5.out.trans (hb.mono HB5.out.size)⟩
end Go.Proofs.Ytclheffeiaaodaa
namespace Go.Proofs.Ytclheffeiaaodaa.LLazyLooks
open Go.ChangeShapes Go.WideShapes Go.ChangeAt Go.RowKit Go.Port

set_option maxRecDepth 100000 in
theorem lifted (os : Os) (started : os.Started) (H : Type) (enc : TypeId × Value → H) :
    ReturnsInHanded {} Try.checked os 3 .any (Rows.lazyLooksSpec.pre6 enc Try.prog Try.f3 Rows.lazyLooksRow.domain false) (Rows.lazyLooksSpec.post enc Try.prog Try.f3 false true false false) := by
  refine returnsInHanded_of_change (C := Try.checked) Try.own started (by kernel_rfl) Try.func3
    (ChangeSpec.witness6 (enc := enc) (C := Try.checked) false ⟨#[], #[.slice none 0 0, .slice none 0 0, .int .i64 0, .int .i64 0, .int .i64 0], []⟩ 8 (by kernel_rfl) (by kernel_rfl) (by kernel_rfl) (by kernel_rfl)) ?_
  intro W base args ds gs before hval0 hW hcnd _
  have hval : ∀ (j : Nat) t v, Try.f3.params[j]? = some t → args[j]? = some v → Value.okWide Try.prog W .any base t v := hval0
  have hW' := hW
  obtain ⟨p, q, hA0, hV, rfl, hfz, hnd⟩ := hW
  have hA : DataW.TrodAll enc Try.prog W 0 (fun _ => true) true Try.f3.params.toList args.toList ds p := hA0
  rw [Try.params3] at hA hval
  obtain ⟨v0, vs0, d0, ds0, p0, q0, hargs, rfl, rfl, h0, r0⟩ := trodAll_cons hA
  obtain ⟨v1, vs1, d1, ds1, p1, q1, rfl, rfl, rfl, h1, r1⟩ := trodAll_cons r0
  obtain ⟨v2, vs2, d2, ds2, p2, q2, rfl, rfl, rfl, h2, r2⟩ := trodAll_cons r1
  obtain ⟨v3, vs3, d3, ds3, p3, q3, rfl, rfl, rfl, h3, r3⟩ := trodAll_cons r2
  obtain ⟨v4, vs4, d4, ds4, p4, q4, rfl, rfl, rfl, h4, r4⟩ := trodAll_cons r3
  obtain ⟨rfl, rfl, rfl⟩ := trodAll_nil r4
  obtain rfl : args = #[v0, v1, v2, v3, v4] := by cases args; simp_all
  obtain ⟨rfl, rfl⟩ := trodVars_none hV
  obtain ⟨l0, hl0, wl0⟩ := open_rowV Try.underlying22 Try.underlying5 (by kernel_rfl) (hval 0 22 v0 rfl rfl) h0
  obtain ⟨bs0, hbs0, hn0⟩ := bytes_of wl0
  rw [hbs0, ← hn0] at hl0
  obtain ⟨l1, hl1, wl1⟩ := open_rowV Try.underlying22 Try.underlying5 (by kernel_rfl) (hval 1 22 v1 rfl rfl) h1
  obtain ⟨bs1, hbs1, hn1⟩ := bytes_of wl1
  rw [hbs1, ← hn1] at hl1
  obtain ⟨a2, rfl, rfl, rfl, w2⟩ := open_int Try.underlying3 (hval 2 3 v2 rfl rfl) h2
  obtain ⟨a3, rfl, rfl, rfl, w3⟩ := open_int Try.underlying3 (hval 3 3 v3 rfl rfl) h3
  obtain ⟨a4, rfl, rfl, rfl, w4⟩ := open_int Try.underlying3 (hval 4 3 v4 rfl rfl) h4
  clear hA0 hval0
  simp only [List.append_nil] at hW'
  refine (LazyLooks_walk W v0 bs0 hl0 v1 bs1 hl1 a2 a3 a4).mono fun e W' ⟨he, hb⟩ => ?_
  subst he
  exact ⟨_, rfl, law_post Try.kids Try.full Try.underlying4 rfl rfl hW' (by rw [Try.params3]; decide) rfl rfl rfl hb⟩

theorem over : Rows.lazyLooksRow.holds Try.pinned (OpenSpec.ofChange Rows.lazyLooksSpec) :=
  OpenClaim.holds_of_wide 3 Try.f3 rfl rfl rfl rfl rfl rfl rfl ⟨rfl, rfl, rfl, rfl, rfl⟩ rfl rfl rfl rfl rfl (by kernel_rfl) Try.func3 (by kernel_rfl)
    (of_decide_eq_true (by kernel_rfl)) (by unfold Func.isWrapper; first | (rw [if_pos (by decide +kernel)]; kernel_rfl) | (rw [if_neg (by decide +kernel)]; exact ⟨rfl, rfl⟩))
    (fun os started H enc _ => lifted os started H enc)

/-- The statement. -/
theorem proved : Rows.LazyLooksSaid :=
  over
end Go.Proofs.Ytclheffeiaaodaa.LLazyLooks
