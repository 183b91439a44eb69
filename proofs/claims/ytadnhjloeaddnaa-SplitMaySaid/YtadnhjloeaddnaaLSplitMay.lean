/-
  The law SplitMay: for whatever size and maximum, and at most 40 integers, the check answers as the reference. No condition.
-/
import Derived.Test.YtadnhjloeaddnaaSplitP
import Derived.Test.YtadnhjloeaddnaaLaw
namespace Go.Proofs.Ytadnhjloeaddnaa
open Go.RowKit Go.Port

set_option maxRecDepth 100000 in
set_option maxHeartbeats 1000000 in
theorem SplitMay_walk (w : World) (size : Int) (hs : -9223372036854775808 ≤ size ∧ size ≤ 9223372036854775807) (most : Int) (_ : -9223372036854775808 ≤ most ∧ most ≤ 9223372036854775807) (v : Value) (l : List Int) (hv : Rs w 1 v l.length (l.map (Value.int .i64))) (_ : ∀ x ∈ l, -9223372036854775808 ≤ x ∧ x ≤ 9223372036854775807) :
    Calls Try.prog 5 #[.int .i64 size, .int .i64 most, v] w (RetV w (.bool true)) := by
  obtain ⟨_, a, c, rfl, hnc, hcm, hac, hcell⟩ := hv
  have HW := hid works_any
  by_cases h40 : 40 < l.length
  · clear hcell
    go_enter Try.func5, Try.ntmps5
    go_wp2_with (go_at_call 12; refine (HW.out _).mono ?_; rintro e w' ⟨rfl, hb⟩)
    go_ret
    exact ⟨rfl, hb⟩
  · have HM := hid (fun W (hW : Below w.heap.size w W) => may_any (max 0 size) most a l.length c l W (by omega) (by omega) rfl (by unfold maxLen; omega) (fun j u hu => by
      obtain ⟨b, off, h1, h2, h3⟩ := hcell j u hu
      exact ⟨b, off, h1, Nat.lt_of_lt_of_le h2 hW.size, (hW.cell (p := ⟨b, off + j, none⟩) h2).trans h3⟩))
    have HC := hid (fun j u hu => (show ∃ b off, a = some ⟨b, off, none⟩ ∧ b < (w.alloc (.cells #[] 3)).heap.size ∧ (w.alloc (.cells #[] 3)).cell? ⟨b, off + j, none⟩ = some u from by
      obtain ⟨b, off, h1, h2, h3⟩ := hcell j u hu
      exact ⟨b, off, h1, Nat.lt_of_lt_of_le h2 (below_new w _).size, ((below_new w (.cells #[] 3)).cell (p := ⟨b, off + j, none⟩) h2).trans h3⟩))
    have HKf := hid (fun a1 c1 w1 h1 => check_any size most a1 l.length c1 l w1 hs.1 hs.2 rfl (by unfold maxLen; omega) h1)
    generalize (if riseB (max 0 size) 0 l = true ∧ mayB (heldI most) (max 0 size) 0 l = true then (0 : Int) else 2) = R at HM HKf
    clear hcell
    go_enter Try.func5, Try.ntmps5
    go_wp2_with (at_builtin; refine Hid.out ?_)
    refine hid ?_
    refine wpList_appends rfl _ _ 29 rfl 3 _ 8 Try.underlying29 Try.info_int rfl (by decide) _ w.heap.size _ 0 l.length c a [] (l.map iv) (by simp) ?hu rfl rfl hnc hac (by exact HC.out) (by exact own_empty (Nat.le_refl _)) ?hn ?hb ?hk
    case hu =>
      intro u hu
      obtain ⟨x, _, rfl⟩ := List.mem_map.1 hu
      rfl
    case hn => omega
    case hb => simp
    case hk =>
      intro v' w1 hown hg
      rw [List.nil_append, Nat.zero_add] at hown
      have hB := (below_new w (.cells #[] 3)).grown hg (by simp) (fun k hk => ((own_empty (e := 3) (Nat.le_refl w.heap.size)).lt k hk).1)
      obtain ⟨a1, c1, rfl, _, _, _, h1⟩ := (Sl.of_owns hown).open
      have HK := hid (HKf.out a1 c1 w1 h1)
      have HB := hid hB
      clear h1 hown hg hB
      go_wp2_with fail
      refine HK.out.mono ?_
      rintro e w2 ⟨rfl, hb2⟩
      have HB2 := hid (HB.out.trans (hb2.mono HB.out.size))
      clear hb2
      go_wp2_with fail
      refine (num_any _ _).mono ?_
      rintro e w' ⟨rfl, rfl⟩
      go_wp2_with fail
      refine (HM.out _ HB2.out).mono ?_
      rintro e w3 ⟨rfl, hb3⟩
      have HB3 := hid (HB2.out.trans (hb3.mono HB2.out.size))
      clear hb3
      go_wp2_with fail
      refine (HW.out _).mono ?_
      rintro e w5 ⟨rfl, hb5⟩
      go_wp2
      go_ret
      exact ⟨rfl, HB3.out.trans (hb5.mono HB3.out.size)⟩
end Go.Proofs.Ytadnhjloeaddnaa
namespace Go.Proofs.Ytadnhjloeaddnaa.LSplitMay
open Go.ChangeShapes Go.WideShapes Go.ChangeAt Go.RowKit Go.Port

set_option maxRecDepth 100000 in
theorem lifted (os : Os) (started : os.Started) (H : Type) (enc : TypeId × Value → H) :
    ReturnsInHanded {} Try.checked os 5 .any (Rows.splitMaySpec.pre6 enc Try.prog Try.f5 Rows.splitMayRow.domain false) (Rows.splitMaySpec.post enc Try.prog Try.f5 false true false false) := by
  refine returnsInHanded_of_change (C := Try.checked) Try.own started (by kernel_rfl) Try.func5
    (ChangeSpec.witness6 (enc := enc) (C := Try.checked) false ⟨#[], #[.int .i64 0, .int .i64 0, .slice none 0 0], []⟩ 8 (by kernel_rfl) (by kernel_rfl) (by kernel_rfl) (by kernel_rfl)) ?_
  intro W base args ds gs before hval0 hW hcnd _
  have hval : ∀ (j : Nat) t v, Try.f5.params[j]? = some t → args[j]? = some v → Value.okWide Try.prog W .any base t v := hval0
  have hW' := hW
  obtain ⟨p, q, hA0, hV, rfl, hfz, hnd⟩ := hW
  have hA : DataW.TrodAll enc Try.prog W 0 (fun _ => true) true Try.f5.params.toList args.toList ds p := hA0
  rw [Try.params5] at hA hval
  obtain ⟨v0, vs0, d0, ds0, p0, q0, hargs, rfl, rfl, h0, r0⟩ := trodAll_cons hA
  obtain ⟨v1, vs1, d1, ds1, p1, q1, rfl, rfl, rfl, h1, r1⟩ := trodAll_cons r0
  obtain ⟨v2, vs2, d2, ds2, p2, q2, rfl, rfl, rfl, h2, r2⟩ := trodAll_cons r1
  obtain ⟨rfl, rfl, rfl⟩ := trodAll_nil r2
  obtain rfl : args = #[v0, v1, v2] := by cases args; simp_all
  obtain ⟨rfl, rfl⟩ := trodVars_none hV
  obtain ⟨a0, rfl, rfl, rfl, w0⟩ := open_int Try.underlying3 (hval 0 3 v0 rfl rfl) h0
  obtain ⟨a1, rfl, rfl, rfl, w1⟩ := open_int Try.underlying3 (hval 1 3 v1 rfl rfl) h1
  obtain ⟨l2, hl2, wl2⟩ := open_rowV Try.underlying29 Try.underlying3 (by kernel_rfl) (hval 2 29 v2 rfl rfl) h2
  clear hA0 hval0
  simp only [List.append_nil] at hW'
  refine (SplitMay_walk W a0 (bounds_i64 w0) a1 (bounds_i64 w1) v2 l2 hl2 (fun x hx => bounds_i64 (wl2 x hx))).mono fun e W' ⟨he, hb⟩ => ?_
  subst he
  exact ⟨_, rfl, law_post Try.kids Try.full Try.underlying4 rfl rfl hW' (by rw [Try.params5]; decide) rfl rfl rfl hb⟩

theorem over : Rows.splitMayRow.holds Try.pinned (OpenSpec.ofChange Rows.splitMaySpec) :=
  OpenClaim.holds_of_wide 5 Try.f5 rfl rfl rfl rfl rfl rfl rfl ⟨rfl, rfl, rfl, rfl, rfl⟩ rfl rfl rfl rfl rfl (by kernel_rfl) Try.func5 (by kernel_rfl)
    (of_decide_eq_true (by kernel_rfl)) (by unfold Func.isWrapper; first | (rw [if_pos (by decide +kernel)]; kernel_rfl) | (rw [if_neg (by decide +kernel)]; exact ⟨rfl, rfl⟩))
    (fun os started H enc _ => lifted os started H enc)

/-- The statement. -/
theorem proved : Rows.SplitMaySaid :=
  over
end Go.Proofs.Ytadnhjloeaddnaa.LSplitMay
