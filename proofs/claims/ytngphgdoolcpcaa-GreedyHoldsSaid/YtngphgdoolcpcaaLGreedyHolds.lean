/-
  The law GreedyHolds: for at most 200 bytes each of history and data, a greedy plan is a plan of the data after the history within the window, and costs at most 15 per sequence more than the literals alone. No condition.
-/
import Derived.Test.YtngphgdoolcpcaaGrL
import Derived.Test.YtngphgdoolcpcaaVerE
namespace Go.Port
open Go.RowKit
theorem fromL_ver {bs : List UInt8} {A : Nat} {W D least : Int} (h : fromE bs A 0 least = 0) : VerOk bs A W 0 (seqs (fromL bs A W D 0 least)) := by
  have hl : fromL bs A W D 0 least = planS (greedyA (findS bs A W D) least) ((bs.length : Int) - A) 0 0 := by unfold fromL; rw [if_pos h]; rfl
  rw [hl]
  exact planS_ver rfl (findS_ok (B := bs) (A := A) (W := W) (D := D) (least := least)) (fun p s h => (greedyA_take h).1) ((bs.length : Int) - A - 0).toNat 0 0 (by omega) (Int.le_refl _) (Int.le_refl _)
end Go.Port
namespace Go.Proofs.Ytngphgdoolcpcaa
open Go.RowKit Go.Port

set_option maxRecDepth 100000 in
set_option maxHeartbeats 4000000 in
theorem GreedyHolds_walk (w : World) (v1 : Value) (A : List UInt8) (h1 : Rs w 1 v1 A.length (A.map bv)) (v2 : Value) (D : List UInt8) (h2 : Rs w 1 v2 D.length (D.map bv)) (W dep least : Int) :
    Calls Try.prog 10 #[v1, v2, .int .i64 W, .int .i64 dep, .int .i64 least] w (RetV w (.bool true)) := by
  have HW := hid works_any
  have HM := hid (made_any v1 v2 A D W dep w h1 h2)
  obtain ⟨_, a1, k1, rfl, hk1, _, hn1, hcell1⟩ := h1
  obtain ⟨_, a2, k2, rfl, hk2, _, hn2, hcell2⟩ := h2
  generalize hbs : A ++ D = bs at *
  have HCa := hid (And.intro (show CellsAt w a1 (A.map bv) from hcell1) (show CellsAt w a2 (D.map bv) from hcell2))
  have HNn := hid (And.intro hn1 hn2)
  clear hcell1 hcell2 hn1 hn2
  go_enter Try.func10, Try.ntmps10
  go_wp2_with fail
  refine HM.out.mono ?_
  rintro e w1 (⟨rfl, hb⟩ | ⟨hm, F, a, c, rfl, hF, hC, hac, hb⟩)
  · have HB := hid (hb.alloc hb.size (.cells #[.slice none 0 0, .int .i64 0, .int .i64 0, .int .i64 0] 25))
    unfold fdv
    clear hb HM hbs
    go_wp2_with (go_at_call 12; refine (HW.out _).mono ?_; rintro e w' ⟨rfl, hb⟩)
    go_ret
    exact ⟨rfl, HB.out.trans (hb.mono HB.out.size)⟩
  · have hk := finderOk_bounds hm.hk
    have hA := hm.hA
    have hD := hm.hD
    have hlen : bs.length = A.length + D.length := by rw [← hbs, List.length_append]
    have HFx := hid (hF.low (below_new w1 (.cells (fdc a bs.length c A.length W dep).toArray 25)))
    have HB1 := hid (hb.alloc hb.size (.cells (fdc a bs.length c A.length W dep).toArray 25))
    unfold fdc at HFx HB1
    unfold fdv
    clear hF hb hC HM hac
    by_cases g1 : least < 3
    · clear hA hD hlen hm hk hbs
      go_wp2_with (go_at_call 12; refine (HW.out _).mono ?_; rintro e w' ⟨rfl, hb⟩)
      go_ret
      exact ⟨rfl, HB1.out.trans (hb.mono HB1.out.size)⟩
    · have he : fromE bs A.length 0 least = 0 := fromE_zero (by omega) (Int.le_refl _) (by omega)
      have hver := fromL_ver (W := W) (D := dep) he
      have HPm := hid (fun W' hF' => gmin_any bs A.length W dep F least W' hF')
      rw [he] at HPm
      have hL := fromL_length bs A.length W dep 0 least
      have hln : (fromL bs A.length W dep 0 least).length = (seqs (fromL bs A.length W dep 0 least)).length := by unfold seqs; rw [List.length_map]
      rw [hln] at hL
      have hin := seqs_in (bs := bs) (A := A.length) (W := W) (D := dep) (p := 0) (least := least) (by omega) hk.1.2
      obtain ⟨r, hr, hr2⟩ := from_cost (D := dep) (by omega) hk.1.2 he
      have hsz : (bs.length : Int) - (A.length : Int) = (D.length : Int) := by omega
      rw [hsz] at hr hr2
      generalize seqs (fromL bs A.length W dep 0 least) = L at *
      have hLn : L.length ≤ 400 := by omega
      have HCo := hid (fun (a : Option Addr) (c : Nat) (W' : World) h => cost_any a c (D.length : Int) L W' (by omega) (by omega) (by omega) hin h)
      rw [hr] at HCo
      unfold costR at HCo
      dsimp only [Option.getD, Option.isSome] at HCo
      have HVf := hid (fun (al : Option Addr) (cl : Nat) (W' : World) (hW' : Below w.heap.size w W') (h1 : L.length ≤ cl) (h2 : CellsAt W' al (L.flatMap sqc)) => pverify_ok L al a1 a2 cl k1 k2 A D W W' (by omega) h1 h2 (by omega) (by omega) hk1 hk2 HNn.out.1 HNn.out.2 (HCa.out.1.low hW') (HCa.out.2.low hW') hk.1.1 hk.1.2 (by rw [hbs]; exact hver))
      have hLI : (L.length : Int) ≤ 400 := by omega
      have hrb : decide (r ≤ 8 * (D.length : Int) + 15 * (L.length : Int)) = true := decide_eq_true hr2
      have hr3 : r ≤ 8 * (D.length : Int) + 15 * (L.length : Int) := hr2
      clear hA hlen hm hL hln hin hsz hr hr2 hver he hk hbs hk1 hk2
      go_wp2_with fail
      refine (HPm.out _ HFx.out).mono ?_
      rintro e w2 ⟨v2, rfl, hown, hb⟩
      obtain ⟨a3, c3, rfl⟩ := own_slice hown
      have HL2 := hid ((Sl.of_owns hown).cells' rfl)
      have HLc := hid ((Sl.of_owns hown).cap rfl)
      have HB2 := hid (HB1.out.trans (hb.mono HB1.out.size))
      clear hown hb HFx HB1 HPm
      go_wp2_with fail
      refine (HCo.out _ _ _ HL2.out).mono ?_
      rintro e w3 ⟨rfl, hb⟩
      have HL3 := hid (HL2.out.low hb)
      have HB3 := hid (HB2.out.trans (hb.mono HB2.out.size))
      clear hb HL2 HB2 HCo
      go_wp2_with (first | (go_at_call 16; refine (num_any _ _).mono ?_; rintro e w' ⟨rfl, rfl⟩))
      refine (HVf.out _ _ _ HB3.out HLc.out.1 HL3.out).mono ?_
      rintro e w4 ⟨rfl, hb⟩
      have HB4 := hid (HB3.out.trans (hb.mono HB3.out.size))
      clear hb HL3 HB3 HVf
      go_wp2_with (first | (go_at_call 16; refine (num_any _ _).mono ?_; rintro e w' ⟨rfl, rfl⟩))
      refine (HW.out _).mono ?_
      rintro e w5 ⟨rfl, hb⟩
      go_wp2
      go_ret
      exact ⟨rfl, HB4.out.trans (hb.mono HB4.out.size)⟩
end Go.Proofs.Ytngphgdoolcpcaa
namespace Go.Proofs.Ytngphgdoolcpcaa.LGreedyHolds
open Go.ChangeShapes Go.WideShapes Go.ChangeAt Go.RowKit Go.Port

set_option maxRecDepth 100000 in
theorem lifted (os : Os) (started : os.Started) (H : Type) (enc : TypeId × Value → H) :
    ReturnsInHanded {} Try.checked os 10 .any (Rows.greedyHoldsSpec.pre6 enc Try.prog Try.f10 Rows.greedyHoldsRow.domain false) (Rows.greedyHoldsSpec.post enc Try.prog Try.f10 false true false false) := by
  refine returnsInHanded_of_change (C := Try.checked) Try.own started (by kernel_rfl) Try.func10
    (ChangeSpec.witness6 (enc := enc) (C := Try.checked) false ⟨#[], #[.slice none 0 0, .slice none 0 0, .int .i64 0, .int .i64 0, .int .i64 0], []⟩ 8 (by kernel_rfl) (by kernel_rfl) (by kernel_rfl) (by kernel_rfl)) ?_
  intro W base args ds gs before hval0 hW hcnd _
  have hval : ∀ (j : Nat) t v, Try.f10.params[j]? = some t → args[j]? = some v → Value.okWide Try.prog W .any base t v := hval0
  have hW' := hW
  obtain ⟨p, q, hA0, hV, rfl, hfz, hnd⟩ := hW
  have hA : DataW.TrodAll enc Try.prog W 0 (fun _ => true) true Try.f10.params.toList args.toList ds p := hA0
  rw [Try.params10] at hA hval
  obtain ⟨v0, vs0, d0, ds0, p0, q0, hargs, rfl, rfl, h0, r0⟩ := trodAll_cons hA
  obtain ⟨v1, vs1, d1, ds1, p1, q1, rfl, rfl, rfl, h1, r1⟩ := trodAll_cons r0
  obtain ⟨v2, vs2, d2, ds2, p2, q2, rfl, rfl, rfl, h2, r2⟩ := trodAll_cons r1
  obtain ⟨v3, vs3, d3, ds3, p3, q3, rfl, rfl, rfl, h3, r3⟩ := trodAll_cons r2
  obtain ⟨v4, vs4, d4, ds4, p4, q4, rfl, rfl, rfl, h4, r4⟩ := trodAll_cons r3
  obtain ⟨rfl, rfl, rfl⟩ := trodAll_nil r4
  obtain rfl : args = #[v0, v1, v2, v3, v4] := by cases args; simp_all
  obtain ⟨rfl, rfl⟩ := trodVars_none hV
  obtain ⟨l0, hl0, wl0⟩ := open_rowV Try.underlying22 Try.underlying5 (by kernel_rfl) (hval 0 22 v0 rfl rfl) h0
  obtain ⟨bs0, hbs0, hn0⟩ := bytes_of wl0
  rw [hbs0, ← hn0] at hl0
  obtain ⟨l1, hl1, wl1⟩ := open_rowV Try.underlying22 Try.underlying5 (by kernel_rfl) (hval 1 22 v1 rfl rfl) h1
  obtain ⟨bs1, hbs1, hn1⟩ := bytes_of wl1
  rw [hbs1, ← hn1] at hl1
  obtain ⟨a2, rfl, rfl, rfl, w2⟩ := open_int Try.underlying3 (hval 2 3 v2 rfl rfl) h2
  obtain ⟨a3, rfl, rfl, rfl, w3⟩ := open_int Try.underlying3 (hval 3 3 v3 rfl rfl) h3
  obtain ⟨a4, rfl, rfl, rfl, w4⟩ := open_int Try.underlying3 (hval 4 3 v4 rfl rfl) h4
  clear hA0 hval0
  simp only [List.append_nil] at hW'
  refine (GreedyHolds_walk W v0 bs0 hl0 v1 bs1 hl1 a2 a3 a4).mono fun e W' ⟨he, hb⟩ => ?_
  subst he
  exact ⟨_, rfl, law_post Try.kids Try.full Try.underlying4 rfl rfl hW' (by rw [Try.params10]; decide) rfl rfl rfl hb⟩

theorem over : Rows.greedyHoldsRow.holds Try.pinned (OpenSpec.ofChange Rows.greedyHoldsSpec) :=
  OpenClaim.holds_of_wide 10 Try.f10 rfl rfl rfl rfl rfl rfl rfl ⟨rfl, rfl, rfl, rfl, rfl⟩ rfl rfl rfl rfl rfl (by kernel_rfl) Try.func10 (by kernel_rfl)
    (of_decide_eq_true (by kernel_rfl)) (by unfold Func.isWrapper; first | (rw [if_pos (by decide +kernel)]; kernel_rfl) | (rw [if_neg (by decide +kernel)]; exact ⟨rfl, rfl⟩))
    (fun os started H enc _ => lifted os started H enc)

/-- The statement. -/
theorem proved : Rows.GreedyHoldsSaid :=
  over
end Go.Proofs.Ytngphgdoolcpcaa.LGreedyHolds
