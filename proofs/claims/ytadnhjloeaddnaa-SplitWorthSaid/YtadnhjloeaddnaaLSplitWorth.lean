/-
  The law SplitWorth: for at most 400 bytes and at most 40 integers the cost of cut points is the reference's. No condition.
-/
import Derived.Test.YtadnhjloeaddnaaSplitQ
import Derived.Test.YtadnhjloeaddnaaLaw
namespace Go.Proofs.Ytadnhjloeaddnaa
open Go.RowKit Go.Port

set_option maxRecDepth 100000 in
set_option maxHeartbeats 1000000 in
theorem SplitWorth_walk (w : World) (vb : Value) (bs : List UInt8) (hvb : Rs w 1 vb bs.length (bs.map bv)) (v : Value) (l : List Int) (hv : Rs w 1 v l.length (l.map (Value.int .i64))) (_ : ∀ x ∈ l, -9223372036854775808 ≤ x ∧ x ≤ 9223372036854775807) :
    Calls Try.prog 6 #[vb, v] w (RetV w (.bool true)) := by
  obtain ⟨_, a, c, rfl, hnc, hcm, hac, hcell⟩ := hv
  obtain ⟨_, ab, cb, rfl, hnb, hbm, hab, hbcell⟩ := hvb
  have HW := hid works_any
  by_cases h40 : 400 < bs.length ∨ 40 < l.length
  · clear hcell hbcell
    by_cases h4 : 400 < bs.length
    · clear h40
      go_enter Try.func6, Try.ntmps6
      go_wp2_with (go_at_call 12; refine (HW.out _).mono ?_; rintro e w' ⟨rfl, hb⟩)
      go_ret
      exact ⟨rfl, hb⟩
    · have h5 : 40 < l.length := by omega
      clear h40
      go_enter Try.func6, Try.ntmps6
      go_wp2_with (go_at_call 12; refine (HW.out _).mono ?_; rintro e w' ⟨rfl, hb⟩)
      go_ret
      exact ⟨rfl, hb⟩
  · have h4 : ¬ 400 < bs.length := by omega
    have h5 : ¬ 40 < l.length := by omega
    clear h40
    have HB := hid (fun W (hW : Below w.heap.size w W) j u hu => (show ∃ b off, ab = some ⟨b, off, none⟩ ∧ b < W.heap.size ∧ W.cell? ⟨b, off + j, none⟩ = some u from by
      obtain ⟨b, off, h1, h2, h3⟩ := hbcell j u hu
      exact ⟨b, off, h1, Nat.lt_of_lt_of_le h2 hW.size, (hW.cell (p := ⟨b, off + j, none⟩) h2).trans h3⟩))
    have HL := hid (fun W (hW : Below w.heap.size w W) j u hu => (show ∃ b off, a = some ⟨b, off, none⟩ ∧ b < W.heap.size ∧ W.cell? ⟨b, off + j, none⟩ = some u from by
      obtain ⟨b, off, h1, h2, h3⟩ := hcell j u hu
      exact ⟨b, off, h1, Nat.lt_of_lt_of_le h2 hW.size, (hW.cell (p := ⟨b, off + j, none⟩) h2).trans h3⟩))
    have HM := hid (fun W (hW : Below w.heap.size w W) => rworth_any ab a bs.length cb l.length c bs l W (by omega) rfl (by omega) rfl hnb hab (HB.out W hW) (HL.out W hW))
    have HK := hid (fun a1 c1 W (hW : Below w.heap.size w W) h1 h2 h3 => cost_any ab a1 bs.length cb l.length c1 bs l W (by omega) rfl (by omega) rfl hnb hab h1 h2 (HB.out W hW) h3)
    generalize (if riseB (bs.length : Int) 0 l = true then worthGo bs 0 (l ++ [(bs.length : Int)]) else (0 : Int)) = X at HM HK
    generalize (if riseB (bs.length : Int) 0 l = true then (0 : Int) else 2) = Y at HM HK
    clear hcell hbcell
    go_enter Try.func6, Try.ntmps6
    go_wp2_with (at_builtin; refine Hid.out ?_)
    refine hid ?_
    refine wpList_appends rfl _ _ 29 rfl 3 _ 8 Try.underlying29 Try.info_int rfl (by decide) _ w.heap.size _ 0 l.length c a [] (l.map iv) (by simp) ?hu rfl rfl hnc hac (by exact HL.out _ (below_new _ _)) (by exact own_empty (Nat.le_refl _)) ?hn ?hb ?hk
    case hu =>
      intro u hu
      obtain ⟨x, _, rfl⟩ := List.mem_map.1 hu
      rfl
    case hn => omega
    case hb => simp
    case hk =>
      intro v' w1 hown hg
      rw [List.nil_append, Nat.zero_add] at hown
      have hB := (below_new w (.cells #[] 3)).grown hg (by simp) (fun k hk => ((own_empty (e := 3) (Nat.le_refl w.heap.size)).lt k hk).1)
      obtain ⟨a1, c1, rfl, hl1, _, hn1, h1⟩ := (Sl.of_owns hown).open
      have HK1 := hid (HK.out a1 c1 w1 hB hl1 hn1 h1)
      have HB1 := hid hB
      clear h1 hown hg hB hl1 hn1
      go_wp2_with fail
      refine HK1.out.mono ?_
      rintro e w2 ⟨rfl, hb2⟩
      have HB2 := hid (HB1.out.trans (hb2.mono HB1.out.size))
      clear hb2
      go_wp2_with fail
      refine (HM.out _ HB2.out).mono ?_
      rintro e w3 ⟨rfl, hb3⟩
      have HB3 := hid (HB2.out.trans (hb3.mono HB2.out.size))
      clear hb3
      go_wp2_with fail
      refine (num_any _ _).mono ?_
      rintro e w' ⟨rfl, rfl⟩
      go_wp2_with fail
      refine (HW.out _).mono ?_
      rintro e w5 ⟨rfl, hb5⟩
      go_wp2
      go_ret
      exact ⟨rfl, HB3.out.trans (hb5.mono HB3.out.size)⟩
end Go.Proofs.Ytadnhjloeaddnaa
namespace Go.Proofs.Ytadnhjloeaddnaa.LSplitWorth
open Go.ChangeShapes Go.WideShapes Go.ChangeAt Go.RowKit Go.Port

set_option maxRecDepth 100000 in
theorem lifted (os : Os) (started : os.Started) (H : Type) (enc : TypeId × Value → H) :
    ReturnsInHanded {} Try.checked os 6 .any (Rows.splitWorthSpec.pre6 enc Try.prog Try.f6 Rows.splitWorthRow.domain false) (Rows.splitWorthSpec.post enc Try.prog Try.f6 false true false false) := by
  refine returnsInHanded_of_change (C := Try.checked) Try.own started (by kernel_rfl) Try.func6
    (ChangeSpec.witness6 (enc := enc) (C := Try.checked) false ⟨#[], #[.slice none 0 0, .slice none 0 0], []⟩ 8 (by kernel_rfl) (by kernel_rfl) (by kernel_rfl) (by kernel_rfl)) ?_
  intro W base args ds gs before hval0 hW hcnd _
  have hval : ∀ (j : Nat) t v, Try.f6.params[j]? = some t → args[j]? = some v → Value.okWide Try.prog W .any base t v := hval0
  have hW' := hW
  obtain ⟨p, q, hA0, hV, rfl, hfz, hnd⟩ := hW
  have hA : DataW.TrodAll enc Try.prog W 0 (fun _ => true) true Try.f6.params.toList args.toList ds p := hA0
  rw [Try.params6] at hA hval
  obtain ⟨v0, vs0, d0, ds0, p0, q0, hargs, rfl, rfl, h0, r0⟩ := trodAll_cons hA
  obtain ⟨v1, vs1, d1, ds1, p1, q1, rfl, rfl, rfl, h1, r1⟩ := trodAll_cons r0
  obtain ⟨rfl, rfl, rfl⟩ := trodAll_nil r1
  obtain rfl : args = #[v0, v1] := by cases args; simp_all
  obtain ⟨rfl, rfl⟩ := trodVars_none hV
  obtain ⟨l0, hl0, wl0⟩ := open_rowV Try.underlying25 Try.underlying5 (by kernel_rfl) (hval 0 25 v0 rfl rfl) h0
  obtain ⟨bs0, hbs0, hn0⟩ := bytes_of wl0
  rw [hbs0, ← hn0] at hl0
  obtain ⟨l1, hl1, wl1⟩ := open_rowV Try.underlying29 Try.underlying3 (by kernel_rfl) (hval 1 29 v1 rfl rfl) h1
  clear hA0 hval0
  simp only [List.append_nil] at hW'
  refine (SplitWorth_walk W v0 bs0 hl0 v1 l1 hl1 (fun x hx => bounds_i64 (wl1 x hx))).mono fun e W' ⟨he, hb⟩ => ?_
  subst he
  exact ⟨_, rfl, law_post Try.kids Try.full Try.underlying4 rfl rfl hW' (by rw [Try.params6]; decide) rfl rfl rfl hb⟩

theorem over : Rows.splitWorthRow.holds Try.pinned (OpenSpec.ofChange Rows.splitWorthSpec) :=
  OpenClaim.holds_of_wide 6 Try.f6 rfl rfl rfl rfl rfl rfl rfl ⟨rfl, rfl, rfl, rfl, rfl⟩ rfl rfl rfl rfl rfl (by kernel_rfl) Try.func6 (by kernel_rfl)
    (of_decide_eq_true (by kernel_rfl)) (by unfold Func.isWrapper; first | (rw [if_pos (by decide +kernel)]; kernel_rfl) | (rw [if_neg (by decide +kernel)]; exact ⟨rfl, rfl⟩))
    (fun os started H enc _ => lifted os started H enc)

/-- The statement. -/
theorem proved : Rows.SplitWorthSaid :=
  over
end Go.Proofs.Ytadnhjloeaddnaa.LSplitWorth
