/-
  The law SplitPart: the cost of a text as a single part is the reference's, for any text, of which 3000 bytes are used. No condition.
-/
import Derived.Test.YtadnhjloeaddnaaSText2
namespace Go.Proofs.Ytadnhjloeaddnaa
open Go.RowKit Go.Port

set_option maxRecDepth 100000 in
set_option maxHeartbeats 1000000 in
theorem SplitPart_walk (w : World) (v : Value) (hv : TextAt w v) :
    Calls Try.prog 7 #[v] w (RetV w (.bool true)) := by
  obtain ⟨a, n, c, rfl, hnc, hcm, hel⟩ := hv
  have hB0 := below_new w (.cells #[.slice a n c] 24)
  have HX := hid (bytes_any (w.alloc (.cells #[.slice a n c] 24)) (.agg #[.slice a n c]) 3000 (by omega) ⟨a, n, c, rfl, hnc, hcm, fun i hi => by
    obtain ⟨b, off, vb, bs, m, h1, h2, h3, h4, h5, h6⟩ := hel i hi
    exact ⟨b, off, vb, bs, m, h1, Nat.lt_of_lt_of_le h2 hB0.size, (hB0.cell (p := ⟨b, off + i * 2, none⟩) h2).trans h3, (hB0.cell (p := ⟨b, off + i * 2 + 1, none⟩) h2).trans h4, h5.below hB0, h6⟩⟩)
  have HB0 := hid hB0
  have HW := hid works_any
  clear hel hB0
  go_enter Try.func7, Try.ntmps7
  go_wp2_with fail
  refine HX.out.mono ?_
  rintro e w1 ⟨vb, fine, bs, rfl, hs, hl, hb⟩
  obtain ⟨ab, cb, rfl, _, _, _, hcell⟩ := hs.open
  have HB1 := hid (HB0.out.trans (hb.mono HB0.out.size))
  have HC := hid hcell
  clear hs hcell hb
  cases fine with
  | false =>
    go_wp2_with fail
    refine (HW.out _).mono ?_
    rintro e w5 ⟨rfl, hb5⟩
    go_wp2
    go_ret
    exact ⟨rfl, HB1.out.trans (hb5.mono HB1.out.size)⟩
  | true =>
    go_wp2_with fail
    refine (single_any ab bs.length cb bs w1 rfl (by unfold maxLen; omega) HC.out).mono ?_
    rintro e w2 ⟨rfl, hb2⟩
    have HC2 := hid (fun j u hu => (show ∃ b off, ab = some ⟨b, off, none⟩ ∧ b < w2.heap.size ∧ w2.cell? ⟨b, off + j, none⟩ = some u from by
      obtain ⟨b, off, h1, h2, h3⟩ := HC.out j u hu
      exact ⟨b, off, h1, Nat.lt_of_lt_of_le h2 hb2.size, (hb2.cell (p := ⟨b, off + j, none⟩) h2).trans h3⟩))
    have HB2 := hid (HB1.out.trans (hb2.mono HB1.out.size))
    clear hb2
    go_wp2_with fail
    refine (rpart_any ab bs.length cb bs w2 rfl (by unfold maxLen; omega) HC2.out).mono ?_
    rintro e w3 ⟨rfl, hb3⟩
    have HB3 := hid (HB2.out.trans (hb3.mono HB2.out.size))
    clear hb3
    go_wp2_with fail
    refine (HW.out _).mono ?_
    rintro e w5 ⟨rfl, hb5⟩
    go_wp2
    go_ret
    exact ⟨rfl, HB3.out.trans (hb5.mono HB3.out.size)⟩
end Go.Proofs.Ytadnhjloeaddnaa
namespace Go.Proofs.Ytadnhjloeaddnaa.LSplitPart
open Go.ChangeShapes Go.WideShapes Go.ChangeAt Go.RowKit Go.Port

set_option maxRecDepth 100000 in
theorem lifted (os : Os) (started : os.Started) (H : Type) (enc : TypeId × Value → H) :
    ReturnsInHanded {} Try.checked os 7 .any (Rows.splitPartSpec.pre6 enc Try.prog Try.f7 Rows.splitPartRow.domain false) (Rows.splitPartSpec.post enc Try.prog Try.f7 false true false false) := by
  refine returnsInHanded_of_change (C := Try.checked) Try.own started (by kernel_rfl) Try.func7
    (ChangeSpec.witness6 (enc := enc) (C := Try.checked) false ⟨#[], #[.agg #[.slice none 0 0]], []⟩ 8 (by kernel_rfl) (by kernel_rfl) (by kernel_rfl) (by kernel_rfl)) ?_
  intro W base args ds gs before hval0 hW hcnd _
  have hval : ∀ (j : Nat) t v, Try.f7.params[j]? = some t → args[j]? = some v → Value.okWide Try.prog W .any base t v := hval0
  have hW' := hW
  obtain ⟨p, q, hA0, hV, rfl, hfz, hnd⟩ := hW
  have hA : DataW.TrodAll enc Try.prog W 0 (fun _ => true) true Try.f7.params.toList args.toList ds p := hA0
  rw [Try.params7] at hA hval
  obtain ⟨v0, vs0, d0, ds0, p0, q0, hargs, rfl, rfl, h0, r0⟩ := trodAll_cons hA
  obtain ⟨rfl, rfl, rfl⟩ := trodAll_nil r0
  obtain rfl : args = #[v0] := by cases args; simp_all
  obtain ⟨rfl, rfl⟩ := trodVars_none hV
  have hl0 := open_text (hval 0 24 v0 rfl rfl) h0
  clear hA0 hval0
  simp only [List.append_nil] at hW'
  refine (SplitPart_walk W v0 hl0).mono fun e W' ⟨he, hb⟩ => ?_
  subst he
  exact ⟨_, rfl, law_post Try.kids Try.full Try.underlying4 rfl rfl hW' (by rw [Try.params7]; decide) rfl rfl rfl hb⟩

theorem over : Rows.splitPartRow.holds Try.pinned (OpenSpec.ofChange Rows.splitPartSpec) :=
  OpenClaim.holds_of_wide 7 Try.f7 rfl rfl rfl rfl rfl rfl rfl ⟨rfl, rfl, rfl, rfl, rfl⟩ rfl rfl rfl rfl rfl (by kernel_rfl) Try.func7 (by kernel_rfl)
    (of_decide_eq_true (by kernel_rfl)) (by unfold Func.isWrapper; first | (rw [if_pos (by decide +kernel)]; kernel_rfl) | (rw [if_neg (by decide +kernel)]; exact ⟨rfl, rfl⟩))
    (fun os started H enc _ => lifted os started H enc)

/-- The statement. -/
theorem proved : Rows.SplitPartSaid :=
  over
end Go.Proofs.Ytadnhjloeaddnaa.LSplitPart
