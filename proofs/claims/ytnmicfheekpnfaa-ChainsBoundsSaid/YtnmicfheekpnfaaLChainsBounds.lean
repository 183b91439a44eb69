/-
  The law ChainsBounds: the limits of data length, window and depth, and one past each. No condition.
-/
import Derived.Test.YtnmicfheekpnfaaCk
import Derived.Laws.MakeOwn
namespace Go.Port
open Go.RowKit
theorem made_bytes (n : Nat) : (madeCells #[Value.int .u8 0] n).toList = (List.replicate n (0 : UInt8)).map bv := by
  apply List.ext_getElem?
  intro j
  simp only [madeCells, Array.toList_map, Array.toList_range, List.getElem?_map, List.getElem?_replicate]
  by_cases h : j < n
  · rw [List.getElem?_range h, if_pos h]
    simp [Nat.mod_one, bv]
  · rw [if_neg h, List.getElem?_eq_none (by simpa using h)]
    rfl
end Go.Port
namespace Go.Proofs.Ytnmicfheekpnfaa
open Go.RowKit Go.Port
theorem Try.info_uint8 : (Try.prog.info? 5).map (fun i => (i.zero, i.size, i.bytes)) = some (some (.int .u8 0), 1, 1) := by kernel_rfl
theorem cnew_e (a2 : Option Addr) (c2 : Nat) (D : List UInt8) (W dep E : Int) (w : World) (h2 : D.length ≤ c2) (h4 : a2 = none → c2 = 0) (hc2 : CellsAt w a2 (D.map bv)) (hE : (if finderOk D.length W dep then (0 : Int) else 2) = E) :
    Calls Try.prog 19 #[.slice none 0 0, .slice a2 D.length c2, .int .i64 W, .int .i64 dep] w fun e w' => ∃ p, e = .returned (.tuple #[.pointer p, .int .i64 E]) ∧ Below w.heap.size w w' := by
  cases hk : finderOk D.length W dep with
  | false =>
    rw [hk, if_neg (by decide)] at hE
    subst hE
    refine (cnew_bad none a2 0 D.length 0 c2 W dep w hk).mono ?_
    rintro e w' ⟨rfl, rfl⟩
    exact ⟨none, rfl, Below.refl _ _⟩
  | true =>
    rw [hk, if_pos rfl] at hE
    subst hE
    have hb := finderOk_bounds hk
    have hl : (D.length : Int) ≤ 131072 := by
      unfold finderOk at hk
      simp only [Bool.and_eq_true, decide_eq_true_eq] at hk
      omega
    refine (cnew_ok none a2 0 c2 [] D W dep w (by simp) hl (by simp) h2 (by simp) h4 (fun j u hu => by simp at hu) hc2 hb.1.1 hb.1.2 hb.2.1 hb.2.2).mono ?_
    rintro e w' ⟨F, rfl, _, h⟩
    exact ⟨_, rfl, h⟩
theorem cnew_made (n : Nat) (W dep E : Int) (w : World) (hE : (if finderOk n W dep then (0 : Int) else 2) = E) :
    Calls Try.prog 19 #[.slice none 0 0, .slice (some ⟨w.heap.size, 0, none⟩) n n, .int .i64 W, .int .i64 dep] (w.alloc (.cells (madeCells #[.int .u8 0] n) 5)) fun e w' => ∃ p, e = .returned (.tuple #[.pointer p, .int .i64 E]) ∧ Below w.heap.size w w' := by
  have hm : madeCells #[.int .u8 0] n = ((List.replicate n (0 : UInt8)).map bv).toArray := by rw [← made_bytes]
  have hl : (List.replicate n (0 : UInt8)).length = n := List.length_replicate
  rw [hm]
  have hB := below_new w (.cells ((List.replicate n (0 : UInt8)).map bv).toArray 5)
  have h := cnew_e (some ⟨w.heap.size, 0, none⟩) n (List.replicate n (0 : UInt8)) W dep E (w.alloc (.cells ((List.replicate n (0 : UInt8)).map bv).toArray 5)) (by rw [hl]; exact Nat.le_refl _) (by simp) (Blk.new w ((List.replicate n (0 : UInt8)).map bv) 5).cellsAt (by rw [hl]; exact hE)
  rw [hl] at h
  refine h.mono ?_
  rintro e w' ⟨p, rfl, hb⟩
  exact ⟨p, rfl, hB.trans (hb.mono hB.size)⟩
theorem cnew_nil (W dep E : Int) (w : World) (hE : (if finderOk 0 W dep then (0 : Int) else 2) = E) :
    Calls Try.prog 19 #[.slice none 0 0, .slice none 0 0, .int .i64 W, .int .i64 dep] w fun e w' => ∃ p, e = .returned (.tuple #[.pointer p, .int .i64 E]) ∧ Below w.heap.size w w' :=
  cnew_e none 0 [] W dep E w (Nat.le_refl _) (fun _ => rfl) (fun j u hu => by simp at hu) hE

set_option maxRecDepth 100000 in
set_option maxHeartbeats 4000000 in
theorem ChainsBounds_walk (w : World) (k : Int) (past : Bool) :
    Calls Try.prog 6 #[.int .i64 k, .bool past] w (RetV w (.bool true)) := by
  have HW := hid works_any
  have HK := hid cnew_made
  have HN := hid cnew_nil
  by_cases h0 : k = 0
  · subst h0
    cases past
    · have hmk : ∀ W : World, (Instr.makeSlice 22 (.int .i64 131072) (.int .i64 131072)).run Try.prog W = .ok (.slice (some ⟨W.heap.size, 0, none⟩) 131072 131072) (W.alloc (.cells (madeCells #[.int .u8 0] 131072) 5)) := fun W =>
        run_make_row' (P := Try.prog) 22 5 (.int .u8 0) 1 Try.underlying22 Try.info_uint8 rfl .i64 .i64 131072 (by decide) (by decide) W
      go_enter Try.func6, Try.ntmps6
      go_wp2_with fail
      refine (HK.out 131072 9 1 0 w (by decide)).mono ?_
      rintro e w1 ⟨p, rfl, hb⟩
      go_wp2_with (go_at_call 10; refine (HW.out _).mono ?_; rintro e w2 ⟨rfl, hb2⟩)
      go_ret
      exact ⟨rfl, hb.trans (hb2.mono hb.size)⟩
    · have hmk : ∀ W : World, (Instr.makeSlice 22 (.int .i64 131073) (.int .i64 131073)).run Try.prog W = .ok (.slice (some ⟨W.heap.size, 0, none⟩) 131073 131073) (W.alloc (.cells (madeCells #[.int .u8 0] 131073) 5)) := fun W =>
        run_make_row' (P := Try.prog) 22 5 (.int .u8 0) 1 Try.underlying22 Try.info_uint8 rfl .i64 .i64 131073 (by decide) (by decide) W
      go_enter Try.func6, Try.ntmps6
      go_wp2_with fail
      refine (HK.out 131073 9 1 2 w (by decide)).mono ?_
      rintro e w1 ⟨p, rfl, hb⟩
      go_wp2_with (go_at_call 10; refine (HW.out _).mono ?_; rintro e w2 ⟨rfl, hb2⟩)
      go_ret
      exact ⟨rfl, hb.trans (hb2.mono hb.size)⟩
  by_cases h1 : k = 1
  · subst h1
    cases past
    · go_enter Try.func6, Try.ntmps6
      go_wp2_with fail
      refine (HN.out 134217728 1 0 w (by decide)).mono ?_
      rintro e w1 ⟨p, rfl, hb⟩
      go_wp2_with (go_at_call 10; refine (HW.out _).mono ?_; rintro e w2 ⟨rfl, hb2⟩)
      go_ret
      exact ⟨rfl, hb.trans (hb2.mono hb.size)⟩
    · go_enter Try.func6, Try.ntmps6
      go_wp2_with fail
      refine (HN.out 134217729 1 2 w (by decide)).mono ?_
      rintro e w1 ⟨p, rfl, hb⟩
      go_wp2_with (go_at_call 10; refine (HW.out _).mono ?_; rintro e w2 ⟨rfl, hb2⟩)
      go_ret
      exact ⟨rfl, hb.trans (hb2.mono hb.size)⟩
  by_cases h2 : k = 2
  · subst h2
    cases past
    · go_enter Try.func6, Try.ntmps6
      go_wp2_with fail
      refine (HN.out 1 1 0 w (by decide)).mono ?_
      rintro e w1 ⟨p, rfl, hb⟩
      go_wp2_with (go_at_call 10; refine (HW.out _).mono ?_; rintro e w2 ⟨rfl, hb2⟩)
      go_ret
      exact ⟨rfl, hb.trans (hb2.mono hb.size)⟩
    · go_enter Try.func6, Try.ntmps6
      go_wp2_with fail
      refine (HN.out 0 1 2 w (by decide)).mono ?_
      rintro e w1 ⟨p, rfl, hb⟩
      go_wp2_with (go_at_call 10; refine (HW.out _).mono ?_; rintro e w2 ⟨rfl, hb2⟩)
      go_ret
      exact ⟨rfl, hb.trans (hb2.mono hb.size)⟩
  by_cases h3 : k = 3
  · subst h3
    cases past
    · go_enter Try.func6, Try.ntmps6
      go_wp2_with fail
      refine (HN.out 1 4096 0 w (by decide)).mono ?_
      rintro e w1 ⟨p, rfl, hb⟩
      go_wp2_with (go_at_call 10; refine (HW.out _).mono ?_; rintro e w2 ⟨rfl, hb2⟩)
      go_ret
      exact ⟨rfl, hb.trans (hb2.mono hb.size)⟩
    · go_enter Try.func6, Try.ntmps6
      go_wp2_with fail
      refine (HN.out 1 4097 2 w (by decide)).mono ?_
      rintro e w1 ⟨p, rfl, hb⟩
      go_wp2_with (go_at_call 10; refine (HW.out _).mono ?_; rintro e w2 ⟨rfl, hb2⟩)
      go_ret
      exact ⟨rfl, hb.trans (hb2.mono hb.size)⟩
  by_cases h4 : k = 4
  · subst h4
    cases past
    · go_enter Try.func6, Try.ntmps6
      go_wp2_with fail
      refine (HN.out 1 1 0 w (by decide)).mono ?_
      rintro e w1 ⟨p, rfl, hb⟩
      go_wp2_with (go_at_call 10; refine (HW.out _).mono ?_; rintro e w2 ⟨rfl, hb2⟩)
      go_ret
      exact ⟨rfl, hb.trans (hb2.mono hb.size)⟩
    · go_enter Try.func6, Try.ntmps6
      go_wp2_with fail
      refine (HN.out 1 0 2 w (by decide)).mono ?_
      rintro e w1 ⟨p, rfl, hb⟩
      go_wp2_with (go_at_call 10; refine (HW.out _).mono ?_; rintro e w2 ⟨rfl, hb2⟩)
      go_ret
      exact ⟨rfl, hb.trans (hb2.mono hb.size)⟩
  · cases past
    all_goals
      go_enter Try.func6, Try.ntmps6
      go_wp2_with (go_at_call 10; refine (HW.out _).mono ?_; rintro e w2 ⟨rfl, hb2⟩)
      go_ret
      exact ⟨rfl, hb2⟩
end Go.Proofs.Ytnmicfheekpnfaa
namespace Go.Proofs.Ytnmicfheekpnfaa.LChainsBounds
open Go.ChangeShapes Go.WideShapes Go.ChangeAt Go.RowKit Go.Port

set_option maxRecDepth 100000 in
theorem lifted (os : Os) (started : os.Started) (H : Type) (enc : TypeId × Value → H) :
    ReturnsInHanded {} Try.checked os 6 .any (Rows.chainsBoundsSpec.pre6 enc Try.prog Try.f6 Rows.chainsBoundsRow.domain false) (Rows.chainsBoundsSpec.post enc Try.prog Try.f6 false true false false) := by
  refine returnsInHanded_of_change (C := Try.checked) Try.own started (by kernel_rfl) Try.func6
    (ChangeSpec.witness6 (enc := enc) (C := Try.checked) false ⟨#[], #[.int .i64 0, .bool false], []⟩ 8 (by kernel_rfl) (by kernel_rfl) (by kernel_rfl) (by kernel_rfl)) ?_
  intro W base args ds gs before hval0 hW hcnd _
  have hval : ∀ (j : Nat) t v, Try.f6.params[j]? = some t → args[j]? = some v → Value.okWide Try.prog W .any base t v := hval0
  have hW' := hW
  obtain ⟨p, q, hA0, hV, rfl, hfz, hnd⟩ := hW
  have hA : DataW.TrodAll enc Try.prog W 0 (fun _ => true) true Try.f6.params.toList args.toList ds p := hA0
  rw [Try.params6] at hA hval
  obtain ⟨v0, vs0, d0, ds0, p0, q0, hargs, rfl, rfl, h0, r0⟩ := trodAll_cons hA
  obtain ⟨v1, vs1, d1, ds1, p1, q1, rfl, rfl, rfl, h1, r1⟩ := trodAll_cons r0
  obtain ⟨rfl, rfl, rfl⟩ := trodAll_nil r1
  obtain rfl : args = #[v0, v1] := by cases args; simp_all
  obtain ⟨rfl, rfl⟩ := trodVars_none hV
  obtain ⟨a0, rfl, rfl, rfl, w0⟩ := open_int Try.underlying3 (hval 0 3 v0 rfl rfl) h0
  obtain ⟨a1, rfl, rfl, rfl⟩ := open_bool Try.underlying4 (hval 1 4 v1 rfl rfl) h1
  clear hA0 hval0
  simp only [List.append_nil] at hW'
  refine (ChainsBounds_walk W a0 a1).mono fun e W' ⟨he, hb⟩ => ?_
  subst he
  exact ⟨_, rfl, law_post Try.kids Try.full Try.underlying4 rfl rfl hW' (by rw [Try.params6]; decide) rfl rfl rfl hb⟩

theorem over : Rows.chainsBoundsRow.holds Try.pinned (OpenSpec.ofChange Rows.chainsBoundsSpec) :=
  OpenClaim.holds_of_wide 6 Try.f6 rfl rfl rfl rfl rfl rfl rfl ⟨rfl, rfl, rfl, rfl, rfl⟩ rfl rfl rfl rfl rfl (by kernel_rfl) Try.func6 (by kernel_rfl)
    (of_decide_eq_true (by kernel_rfl)) (by unfold Func.isWrapper; first | (rw [if_pos (by decide +kernel)]; kernel_rfl) | (rw [if_neg (by decide +kernel)]; exact ⟨rfl, rfl⟩))
    (fun os started H enc _ => lifted os started H enc)

/-- The statement. -/
theorem proved : Rows.ChainsBoundsSaid :=
  over
end Go.Proofs.Ytnmicfheekpnfaa.LChainsBounds
