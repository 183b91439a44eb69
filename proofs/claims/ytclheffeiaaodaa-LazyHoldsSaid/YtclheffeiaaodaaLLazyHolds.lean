/-
  The law LazyHolds: for at most 150 bytes each of history and data, every lazy plan is a plan of the data after the history within the window. No condition.
-/
import Derived.Test.YtclheffeiaaodaaLzL
import Derived.Test.YtclheffeiaaodaaVer
namespace Go.Proofs.Ytclheffeiaaodaa
open Go.RowKit Go.Port

set_option maxRecDepth 100000 in
set_option maxHeartbeats 4000000 in
theorem LazyHolds_walk (w : World) (v1 : Value) (A : List UInt8) (h1 : Rs w 1 v1 A.length (A.map bv)) (v2 : Value) (D : List UInt8) (h2 : Rs w 1 v2 D.length (D.map bv)) (W dep far : Int) :
    Calls Try.prog 10 #[v1, v2, .int .i64 W, .int .i64 dep, .int .i64 far] w (RetV w (.bool true)) := by
  have HW := hid works_any
  have HM := hid (made_any v1 v2 A D W dep w h1 h2)
  obtain ⟨_, a1, k1, rfl, hk1, _, hn1, hcell1⟩ := h1
  obtain ⟨_, a2, k2, rfl, hk2, _, hn2, hcell2⟩ := h2
  have HCa := hid (And.intro (show CellsAt w a1 (A.map bv) from hcell1) (show CellsAt w a2 (D.map bv) from hcell2))
  have HNn := hid (And.intro (And.intro hn1 hn2) (And.intro hk1 hk2))
  clear hcell1 hcell2 hn1 hn2 hk1 hk2
  generalize hbs : A ++ D = bs at *
  go_enter Try.func10, Try.ntmps10
  go_wp2_with fail
  refine HM.out.mono ?_
  rintro e w1 (⟨rfl, hb⟩ | ⟨hm, F, a, c, rfl, hF, hC, hac, hb⟩)
  · have HB := hid (hb.alloc hb.size (.cells #[.slice none 0 0, .int .i64 0, .int .i64 0, .int .i64 0] 25))
    unfold fdv
    clear hb HM hbs
    go_wp2_with (go_at_call 12; refine (HW.out _).mono ?_; rintro e w' ⟨rfl, hb⟩)
    go_ret
    exact ⟨rfl, HB.out.trans (hb.mono HB.out.size)⟩
  · have hk := finderOk_bounds hm.hk
    have hA := hm.hA
    have hD := hm.hD
    have hlen : bs.length = A.length + D.length := by rw [← hbs, List.length_append]
    have HFx1 := hid (hF.low (below_new w1 (.cells (fdc a bs.length c A.length W dep).toArray 25)))
    have HBw1 := hid (hb.alloc hb.size (.cells (fdc a bs.length c A.length W dep).toArray 25))
    unfold fdc at HFx1 HBw1
    unfold fdv
    clear hF hb hC HM hac
    by_cases he : lazyE far = 0
    · obtain ⟨kf, rfl, hkf⟩ := lazyE_ok he
      have hf1 : ¬ (kf : Int) < 0 := by omega
      have hf2 : ¬ 8 < (kf : Int) := by omega
      have HLk := hid (fun W' hF' => look_any bs A.length W dep F (kf : Int) W' hF')
      have HLp := hid (fun W' hF' => lzparse_any bs A.length W dep F W' hF' (by omega))
      rw [lazyL_nat hkf, he] at HLk
      have hln : ∀ l : List (Int × Sq), (seqs l).length = l.length := fun l => by unfold seqs; rw [List.length_map]
      have HVf := hid (fun (k : Nat) (al : Option Addr) (cl : Nat) (W' : World) (hW' : Below w.heap.size w W') (h1 : (seqs (lazyP bs A.length W dep k)).length ≤ cl) (h2 : CellsAt W' al ((seqs (lazyP bs A.length W dep k)).flatMap sqc)) =>
        pverify_ok (seqs (lazyP bs A.length W dep k)) al a1 a2 cl k1 k2 A D W W' (by rw [hln]; have := lazyP_length bs A.length W dep k; omega) h1 h2 (by omega) (by omega) HNn.out.2.1 HNn.out.2.2 HNn.out.1.1 HNn.out.1.2 (HCa.out.1.low hW') (HCa.out.2.low hW') hk.1.1 hk.1.2 (by rw [hbs]; exact lazy_ver bs A.length W dep k))
      have HV1 := hid (HVf.out kf)
      have HV2 := hid (HVf.out (lazyB bs A.length W dep 2))
      generalize seqs (lazyP bs A.length W dep kf) = L1 at *
      generalize seqs (lazyP bs A.length W dep (lazyB bs A.length W dep 2)) = L2 at *
      clear hm hk hA hD hlen he hkf hln HVf hbs
      go_wp2_with fail
      refine (HLk.out _ HFx1.out).mono ?_
      rintro e w2 ⟨v, rfl, hown, hb⟩
      obtain ⟨b2, c2, rfl⟩ := own_slice hown
      have HP2 := hid ((Sl.of_owns hown).cells' rfl)
      have HPc2 := hid ((Sl.of_owns hown).cap rfl)
      have HBw2 := hid (HBw1.out.trans (hb.mono HBw1.out.size))
      have HFx2 := hid (HFx1.out.low hb)
      clear hown hb HBw1 HFx1
      go_wp2_with fail
      refine (HLp.out _ HFx2.out).mono ?_
      rintro e w3 ⟨v, rfl, hown, hb⟩
      obtain ⟨b3, c3, rfl⟩ := own_slice hown
      have HQ3 := hid ((Sl.of_owns hown).cells' rfl)
      have HQc3 := hid ((Sl.of_owns hown).cap rfl)
      have HBw3 := hid (HBw2.out.trans (hb.mono HBw2.out.size))
      have HP3 := hid (HP2.out.low hb)
      clear hown hb HBw2 HP2
      go_wp2_with (first | (go_at_call 16; refine (num_any _ _).mono ?_; rintro e w' ⟨rfl, rfl⟩))
      refine (HV1.out _ _ _ HBw3.out HPc2.out.1 HP3.out).mono ?_
      rintro e w4 ⟨rfl, hb⟩
      have HBw4 := hid (HBw3.out.trans (hb.mono HBw3.out.size))
      have HQ4 := hid (HQ3.out.low hb)
      clear hb HBw3 HP3 HQ3
      go_wp2_with (first | (go_at_call 16; refine (num_any _ _).mono ?_; rintro e w' ⟨rfl, rfl⟩))
      refine (HV2.out _ _ _ HBw4.out HQc3.out.1 HQ4.out).mono ?_
      rintro e w5 ⟨rfl, hb⟩
      have HBw5 := hid (HBw4.out.trans (hb.mono HBw4.out.size))
      clear hb HBw4 HQ4
      go_wp2_with (first | (go_at_call 16; refine (num_any _ _).mono ?_; rintro e w' ⟨rfl, rfl⟩))
      refine (HW.out _).mono ?_
      rintro e w6 ⟨rfl, hb⟩
      go_wp2
      go_ret
      exact ⟨rfl, HBw5.out.trans (hb.mono HBw5.out.size)⟩
    · have hc := (lazyE_bad he).2
      clear hm hk hA hD hlen he hbs
      rcases hc with h1 | ⟨h1, h2⟩
      all_goals
        go_wp2_with (go_at_call 12; refine (HW.out _).mono ?_; rintro e w' ⟨rfl, hb⟩)
        go_ret
        exact ⟨rfl, HBw1.out.trans (hb.mono HBw1.out.size)⟩
end Go.Proofs.Ytclheffeiaaodaa
namespace Go.Proofs.Ytclheffeiaaodaa.LLazyHolds
open Go.ChangeShapes Go.WideShapes Go.ChangeAt Go.RowKit Go.Port

set_option maxRecDepth 100000 in
theorem lifted (os : Os) (started : os.Started) (H : Type) (enc : TypeId × Value → H) :
    ReturnsInHanded {} Try.checked os 10 .any (Rows.lazyHoldsSpec.pre6 enc Try.prog Try.f10 Rows.lazyHoldsRow.domain false) (Rows.lazyHoldsSpec.post enc Try.prog Try.f10 false true false false) := by
  refine returnsInHanded_of_change (C := Try.checked) Try.own started (by kernel_rfl) Try.func10
    (ChangeSpec.witness6 (enc := enc) (C := Try.checked) false ⟨#[], #[.slice none 0 0, .slice none 0 0, .int .i64 0, .int .i64 0, .int .i64 0], []⟩ 8 (by kernel_rfl) (by kernel_rfl) (by kernel_rfl) (by kernel_rfl)) ?_
  intro W base args ds gs before hval0 hW hcnd _
  have hval : ∀ (j : Nat) t v, Try.f10.params[j]? = some t → args[j]? = some v → Value.okWide Try.prog W .any base t v := hval0
  have hW' := hW
  obtain ⟨p, q, hA0, hV, rfl, hfz, hnd⟩ := hW
  have hA : DataW.TrodAll enc Try.prog W 0 (fun _ => true) true Try.f10.params.toList args.toList ds p := hA0
  rw [Try.params10] at hA hval
  obtain ⟨v0, vs0, d0, ds0, p0, q0, hargs, rfl, rfl, h0, r0⟩ := trodAll_cons hA
  obtain ⟨v1, vs1, d1, ds1, p1, q1, rfl, rfl, rfl, h1, r1⟩ := trodAll_cons r0
  obtain ⟨v2, vs2, d2, ds2, p2, q2, rfl, rfl, rfl, h2, r2⟩ := trodAll_cons r1
  obtain ⟨v3, vs3, d3, ds3, p3, q3, rfl, rfl, rfl, h3, r3⟩ := trodAll_cons r2
  obtain ⟨v4, vs4, d4, ds4, p4, q4, rfl, rfl, rfl, h4, r4⟩ := trodAll_cons r3
  obtain ⟨rfl, rfl, rfl⟩ := trodAll_nil r4
  obtain rfl : args = #[v0, v1, v2, v3, v4] := by cases args; simp_all
  obtain ⟨rfl, rfl⟩ := trodVars_none hV
  obtain ⟨l0, hl0, wl0⟩ := open_rowV Try.underlying22 Try.underlying5 (by kernel_rfl) (hval 0 22 v0 rfl rfl) h0
  obtain ⟨bs0, hbs0, hn0⟩ := bytes_of wl0
  rw [hbs0, ← hn0] at hl0
  obtain ⟨l1, hl1, wl1⟩ := open_rowV Try.underlying22 Try.underlying5 (by kernel_rfl) (hval 1 22 v1 rfl rfl) h1
  obtain ⟨bs1, hbs1, hn1⟩ := bytes_of wl1
  rw [hbs1, ← hn1] at hl1
  obtain ⟨a2, rfl, rfl, rfl, w2⟩ := open_int Try.underlying3 (hval 2 3 v2 rfl rfl) h2
  obtain ⟨a3, rfl, rfl, rfl, w3⟩ := open_int Try.underlying3 (hval 3 3 v3 rfl rfl) h3
  obtain ⟨a4, rfl, rfl, rfl, w4⟩ := open_int Try.underlying3 (hval 4 3 v4 rfl rfl) h4
  clear hA0 hval0
  simp only [List.append_nil] at hW'
  refine (LazyHolds_walk W v0 bs0 hl0 v1 bs1 hl1 a2 a3 a4).mono fun e W' ⟨he, hb⟩ => ?_
  subst he
  exact ⟨_, rfl, law_post Try.kids Try.full Try.underlying4 rfl rfl hW' (by rw [Try.params10]; decide) rfl rfl rfl hb⟩

theorem over : Rows.lazyHoldsRow.holds Try.pinned (OpenSpec.ofChange Rows.lazyHoldsSpec) :=
  OpenClaim.holds_of_wide 10 Try.f10 rfl rfl rfl rfl rfl rfl rfl ⟨rfl, rfl, rfl, rfl, rfl⟩ rfl rfl rfl rfl rfl (by kernel_rfl) Try.func10 (by kernel_rfl)
    (of_decide_eq_true (by kernel_rfl)) (by unfold Func.isWrapper; first | (rw [if_pos (by decide +kernel)]; kernel_rfl) | (rw [if_neg (by decide +kernel)]; exact ⟨rfl, rfl⟩))
    (fun os started H enc _ => lifted os started H enc)

/-- The statement. -/
theorem proved : Rows.LazyHoldsSaid :=
  over
end Go.Proofs.Ytclheffeiaaodaa.LLazyHolds
