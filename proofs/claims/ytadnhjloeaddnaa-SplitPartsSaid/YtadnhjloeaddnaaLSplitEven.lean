/-
  The law SplitEven: for whatever size and maximum the cut points of parts of equal length are those of the reference, and where there are at most 65536 of them the check accepts them. No condition.
-/
import Derived.Test.YtadnhjloeaddnaaSplitP
import Derived.Test.YtadnhjloeaddnaaLaw
namespace Go.Port
open Go.RowKit

theorem eq_fine (S h : Int) (hh : 1 ≤ h) : ∀ (m j : Nat), (∀ k : Nat, k < j + m → ((k : Int) + 1) * h < S) → ¬ (((j + m : Nat) : Int) + 1) * h < S →
    riseB S ((j : Int) * h) ((List.range' j m).map fun (i : Nat) => ((i : Int) + 1) * h) = true ∧ mayB h S ((j : Int) * h) ((List.range' j m).map fun (i : Nat) => ((i : Int) + 1) * h) = true
  | 0, j, _, h2 => by
    have e : (((j + 0 : Nat) : Int) + 1) * h = (j : Int) * h + h := by rw [Nat.add_zero, Int.add_mul, Int.one_mul]
    rw [e] at h2
    simp only [List.range'_zero, List.map_nil, riseB, mayB]
    exact ⟨trivial, by simp; omega⟩
  | m + 1, j, h1, h2 => by
    have e : ((j : Int) + 1) * h = (j : Int) * h + h := by rw [Int.add_mul, Int.one_mul]
    have ej : (((j + 1 : Nat) : Int)) * h = ((j : Int) + 1) * h := rfl
    have ih := eq_fine S h hh m (j + 1) (fun k hk => h1 k (by omega)) (by rw [show j + 1 + m = j + (m + 1) from by omega]; exact h2)
    have h3 := h1 j (by omega)
    rw [ej] at ih
    simp only [List.range'_succ, List.map_cons, riseB, mayB, ih.1, ih.2, Bool.and_true, Bool.and_eq_true, decide_eq_true_eq]
    rw [e] at h3 ⊢
    omega

theorem even_quo (size h : Int) (hh : 1 ≤ h) : (max 1 size - 1) / h = (eqN size h : Int) := by
  unfold eqN
  split
  · rename_i hs
    rw [show max 1 size - 1 = 0 from by omega]
    simp
  · rename_i hs
    rw [show max 1 size - 1 = size - 1 from by omega]
    have h2 : 0 ≤ (size - 1) / h := Int.ediv_nonneg (by omega) (by omega)
    omega

theorem eqCuts_fine (size h : Int) (hh : 1 ≤ h) (hN : ¬ 65536 < eqN size h) : riseB (max 0 size) 0 (eqCuts size h) = true ∧ mayB h (max 0 size) 0 (eqCuts size h) = true := by
  unfold eqCuts
  rw [if_neg hN]
  unfold eqL
  rw [List.range_eq_range']
  have key : ∀ k : Nat, ((k : Int) + 1) * h < max 0 size ↔ k < eqN size h := fun k => by
    have h1 := eqN_lt (size := size) hh k
    have h2 : 0 ≤ ((k : Int) + 1) * h := Int.mul_nonneg (by omega) (by omega)
    omega
  have := eq_fine (max 0 size) h hh (eqN size h) 0 (fun k hk => (key k).2 (by omega)) (by rw [Nat.zero_add, key]; omega)
  simpa using this
end Go.Port
namespace Go.Proofs.Ytadnhjloeaddnaa
open Go.RowKit Go.Port

theorem SplitEven_walk (w : World) (size : Int) (hs : -9223372036854775808 ≤ size ∧ size ≤ 9223372036854775807) (most : Int) (_ : -9223372036854775808 ≤ most ∧ most ≤ 9223372036854775807) :
    Calls Try.prog 4 #[.int .i64 size, .int .i64 most] w (RetV w (.bool true)) := by
  have hh := heldI_bounds most
  have HH := hid (fun W => most_any most W)
  have HF := hid (eqCuts_fine size (heldI most) hh.1)
  have HE := hid (fun W => eqcuts_any size most W hs.1 hs.2)
  have HV := hid (fun W => even_any size most W hs.1 hs.2)
  have HW := hid works_any
  have HK := hid (fun (a : Option Addr) n c l W => check_any size most a n c l W hs.1 hs.2)
  generalize heldI most = h at *
  have hq := even_quo size h hh.1
  have hq0 : 0 ≤ max 1 size - 1 := by omega
  have hcl : (eqCuts size h).length ≤ 65536 := by
    unfold eqCuts
    split
    · simp
    · rw [eqL_length]; omega
  generalize hN : eqN size h = N at *
  generalize eqCuts size h = cs at *
  have HNN := hid hN
  clear hN
  by_cases h3 : 3000 < N
  · by_cases h6 : N ≤ 65536
    · go_enter Try.func4, Try.ntmps4
      go_wp2_with (go_at_call 16; refine (HH.out _).mono ?_; rintro e w' ⟨rfl, rfl⟩)
      refine (HW.out _).mono ?_
      rintro e w1 ⟨rfl, hb⟩
      go_wp2
      go_ret
      exact ⟨rfl, hb⟩
    · go_enter Try.func4, Try.ntmps4
      go_wp2_with (go_at_call 16; refine (HH.out _).mono ?_; rintro e w' ⟨rfl, rfl⟩)
      refine (HE.out _).mono ?_
      rintro e w1 ⟨v1, rfl, h1, hb1⟩
      obtain ⟨a1, c1, rfl, _, _, _, r1⟩ := h1.open
      go_wp2_with fail
      refine (HV.out _).mono ?_
      rintro e w2 ⟨v2, rfl, h2, hb2⟩
      obtain ⟨a2, c2, rfl, _, _, _, r2⟩ := h2.open
      have r1' := (h1.below hb2).open
      have HS := hid (same_yes a1 a2 cs.length c1 c2 cs w2 rfl (by unfold maxLen; omega) (fun j u hu => by
        obtain ⟨a, c, e, _, _, _, r⟩ := r1'
        cases e
        exact r j u hu) r2)
      clear r1 r2 r1' h2
      have H1 := hid h1
      clear h1
      go_wp2_with fail
      refine HS.out.mono ?_
      rintro e w3 ⟨rfl, hb3⟩
      have hB3 := hb1.trans ((hb2.mono hb1.size).trans (hb3.mono (Nat.le_trans hb1.size hb2.size)))
      have HB3 := hid hB3
      have hb13 := hb2.trans (hb3.mono hb2.size)
      have HB13 := hid hb13
      clear hb1 hb2 hb3 hB3 hb13
      go_wp2_with fail
      refine (HW.out _).mono ?_
      rintro e w5 ⟨rfl, hb5⟩
      go_wp2
      go_ret
      exact ⟨rfl, HB3.out.trans (hb5.mono HB3.out.size)⟩
  · have HF := hid (HF.out (by omega))
    go_enter Try.func4, Try.ntmps4
    go_wp2_with (go_at_call 16; refine (HH.out _).mono ?_; rintro e w' ⟨rfl, rfl⟩)
    refine (HE.out _).mono ?_
    rintro e w1 ⟨v1, rfl, h1, hb1⟩
    obtain ⟨a1, c1, rfl, _, _, _, r1⟩ := h1.open
    go_wp2_with fail
    refine (HV.out _).mono ?_
    rintro e w2 ⟨v2, rfl, h2, hb2⟩
    obtain ⟨a2, c2, rfl, _, _, _, r2⟩ := h2.open
    have r1' := (h1.below hb2).open
    have HS := hid (same_yes a1 a2 cs.length c1 c2 cs w2 rfl (by unfold maxLen; omega) (fun j u hu => by
      obtain ⟨a, c, e, _, _, _, r⟩ := r1'
      cases e
      exact r j u hu) r2)
    clear r1 r2 r1' h2
    have H1 := hid h1
    clear h1
    go_wp2_with fail
    refine HS.out.mono ?_
    rintro e w3 ⟨rfl, hb3⟩
    have hB3 := hb1.trans ((hb2.mono hb1.size).trans (hb3.mono (Nat.le_trans hb1.size hb2.size)))
    have HB3 := hid hB3
    have hb13 := hb2.trans (hb3.mono hb2.size)
    have HB13 := hid hb13
    clear hb1 hb2 hb3 hB3 hb13
    go_wp2_with fail
    obtain ⟨a, c, e, _, hcm, _, r3⟩ := (H1.out.below HB13.out).open
    cases e
    have HC := hid (HK.out a1 cs.length c1 cs w3 rfl (by unfold maxLen; omega) r3)
    clear r3
    rw [if_pos HF.out] at HC
    refine HC.out.mono ?_
    rintro e w4 ⟨rfl, hb4⟩
    go_wp2_with fail
    refine (num_any _ _).mono ?_
    rintro e w' ⟨rfl, rfl⟩
    have HB4 := hid (HB3.out.trans (hb4.mono HB3.out.size))
    clear hb4
    go_wp2_with fail
    refine (HW.out _).mono ?_
    rintro e w5 ⟨rfl, hb5⟩
    go_wp2
    go_ret
    exact ⟨rfl, HB4.out.trans (hb5.mono HB4.out.size)⟩
end Go.Proofs.Ytadnhjloeaddnaa
namespace Go.Proofs.Ytadnhjloeaddnaa.LSplitEven
open Go.ChangeShapes Go.WideShapes Go.ChangeAt Go.RowKit Go.Port

set_option maxRecDepth 100000 in
theorem lifted (os : Os) (started : os.Started) (H : Type) (enc : TypeId × Value → H) :
    ReturnsInHanded {} Try.checked os 4 .any (Rows.splitEvenSpec.pre6 enc Try.prog Try.f4 Rows.splitEvenRow.domain false) (Rows.splitEvenSpec.post enc Try.prog Try.f4 false true false false) := by
  refine returnsInHanded_of_change (C := Try.checked) Try.own started (by kernel_rfl) Try.func4
    (ChangeSpec.witness6 (enc := enc) (C := Try.checked) false ⟨#[], #[.int .i64 0, .int .i64 0], []⟩ 8 (by kernel_rfl) (by kernel_rfl) (by kernel_rfl) (by kernel_rfl)) ?_
  intro W base args ds gs before hval0 hW hcnd _
  have hval : ∀ (j : Nat) t v, Try.f4.params[j]? = some t → args[j]? = some v → Value.okWide Try.prog W .any base t v := hval0
  have hW' := hW
  obtain ⟨p, q, hA0, hV, rfl, hfz, hnd⟩ := hW
  have hA : DataW.TrodAll enc Try.prog W 0 (fun _ => true) true Try.f4.params.toList args.toList ds p := hA0
  rw [Try.params4] at hA hval
  obtain ⟨v0, vs0, d0, ds0, p0, q0, hargs, rfl, rfl, h0, r0⟩ := trodAll_cons hA
  obtain ⟨v1, vs1, d1, ds1, p1, q1, rfl, rfl, rfl, h1, r1⟩ := trodAll_cons r0
  obtain ⟨rfl, rfl, rfl⟩ := trodAll_nil r1
  obtain rfl : args = #[v0, v1] := by cases args; simp_all
  obtain ⟨rfl, rfl⟩ := trodVars_none hV
  obtain ⟨a0, rfl, rfl, rfl, w0⟩ := open_int Try.underlying3 (hval 0 3 v0 rfl rfl) h0
  obtain ⟨a1, rfl, rfl, rfl, w1⟩ := open_int Try.underlying3 (hval 1 3 v1 rfl rfl) h1
  clear hA0 hval0
  simp only [List.append_nil] at hW'
  refine (SplitEven_walk W a0 (bounds_i64 w0) a1 (bounds_i64 w1)).mono fun e W' ⟨he, hb⟩ => ?_
  subst he
  exact ⟨_, rfl, law_post Try.kids Try.full Try.underlying4 rfl rfl hW' (by rw [Try.params4]; decide) rfl rfl rfl hb⟩

theorem over : Rows.splitEvenRow.holds Try.pinned (OpenSpec.ofChange Rows.splitEvenSpec) :=
  OpenClaim.holds_of_wide 4 Try.f4 rfl rfl rfl rfl rfl rfl rfl ⟨rfl, rfl, rfl, rfl, rfl⟩ rfl rfl rfl rfl rfl (by kernel_rfl) Try.func4 (by kernel_rfl)
    (of_decide_eq_true (by kernel_rfl)) (by unfold Func.isWrapper; first | (rw [if_pos (by decide +kernel)]; kernel_rfl) | (rw [if_neg (by decide +kernel)]; exact ⟨rfl, rfl⟩))
    (fun os started H enc _ => lifted os started H enc)

/-- The statement. -/
theorem proved : Rows.SplitEvenSaid :=
  over
end Go.Proofs.Ytadnhjloeaddnaa.LSplitEven
