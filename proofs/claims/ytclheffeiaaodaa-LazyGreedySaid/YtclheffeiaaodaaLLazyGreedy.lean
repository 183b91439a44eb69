/-
  The law LazyGreedy: for at most 150 bytes each of history and data, any window and depth, without lookahead the lazy plan is the greedy one, and Parse costs no more. No condition.
-/
import Derived.Test.YtclheffeiaaodaaLzL
namespace Go.Proofs.Ytclheffeiaaodaa
open Go.RowKit Go.Port

set_option maxRecDepth 100000 in
set_option maxHeartbeats 4000000 in
theorem LazyGreedy_walk (w : World) (v1 : Value) (A : List UInt8) (h1 : Rs w 1 v1 A.length (A.map bv)) (v2 : Value) (D : List UInt8) (h2 : Rs w 1 v2 D.length (D.map bv)) (W dep : Int) :
    Calls Try.prog 7 #[v1, v2, .int .i64 W, .int .i64 dep] w (RetV w (.bool true)) := by
  have HW := hid works_any
  have HM := hid (made_any v1 v2 A D W dep w h1 h2)
  obtain ⟨_, a1, k1, rfl, hk1, _, hn1, hcell1⟩ := h1
  obtain ⟨_, a2, k2, rfl, hk2, _, hn2, hcell2⟩ := h2
  have HCa := hid (And.intro (show CellsAt w a1 (A.map bv) from hcell1) (show CellsAt w a2 (D.map bv) from hcell2))
  have HNn := hid (And.intro (And.intro hn1 hn2) (And.intro hk1 hk2))
  clear hcell1 hcell2 hn1 hn2 hk1 hk2
  generalize hbs : A ++ D = bs at *
  go_enter Try.func7, Try.ntmps7
  go_wp2_with fail
  refine HM.out.mono ?_
  rintro e w1 (⟨rfl, hb⟩ | ⟨hm, F, a, c, rfl, hF, hC, hac, hb⟩)
  · have HB := hid (hb.alloc hb.size (.cells #[.slice none 0 0, .int .i64 0, .int .i64 0, .int .i64 0] 25))
    unfold fdv
    clear hb HM hbs
    go_wp2_with (go_at_call 12; refine (HW.out _).mono ?_; rintro e w' ⟨rfl, hb⟩)
    go_ret
    exact ⟨rfl, HB.out.trans (hb.mono HB.out.size)⟩
  · have hk := finderOk_bounds hm.hk
    have hA := hm.hA
    have hD := hm.hD
    have hlen : bs.length = A.length + D.length := by rw [← hbs, List.length_append]
    have HFx1 := hid (hF.low (below_new w1 (.cells (fdc a bs.length c A.length W dep).toArray 25)))
    have HBw1 := hid (hb.alloc hb.size (.cells (fdc a bs.length c A.length W dep).toArray 25))
    unfold fdc at HFx1 HBw1
    unfold fdv
    clear HCa HNn
    have hA2 : A.length ≤ bs.length := by omega
    have HL0 := hid (fun W' hF' => look_any bs A.length W dep F 0 W' hF')
    rw [show (0 : Int) = ((0 : Nat) : Int) from rfl, lazyL_nat (Nat.zero_le _), lazyE_nat (Nat.zero_le _), lazyP_zero hA2, Int.natCast_zero] at HL0
    have HGp := hid (fun W' hF' => gparse_any bs A.length W dep F W' hF')
    have HLp := hid (fun W' hF' => lzparse_any bs A.length W dep F W' hF' (by omega))
    have HGc := hid (fun W' hF' => gcost_any bs A.length W dep F W' hF' (by omega))
    have hc0 := lazyC_some (D := dep) (far := 0) hA2 hk.1.2
    have hc2 := lazyC_some (D := dep) (far := lazyB bs A.length W dep 2) hA2 hk.1.2
    have hle : lazyC bs A.length W dep (lazyB bs A.length W dep 2) ≤ lazyC bs A.length W dep 0 := leastGo_le (lazyC bs A.length W dep) 3 0 (by omega)
    have hin := lazyP_in bs A.length W dep (lazyB bs A.length W dep 2) (by omega) hk.1.2
    have hl2 := lazyP_length bs A.length W dep (lazyB bs A.length W dep 2)
    have hl0 := fromL_length bs A.length W dep 0 3
    rw [lazyP_zero hA2] at hc0
    rw [hc0] at HGc
    have hsz : (bs.length : Int) - (A.length : Int) = (D.length : Int) := by omega
    rw [hsz] at hc2
    have hln : ∀ l : List (Int × Sq), (seqs l).length = l.length := fun l => by unfold seqs; rw [List.length_map]
    rw [← hln] at hl2 hl0
    generalize seqs (lazyP bs A.length W dep (lazyB bs A.length W dep 2)) = L2 at *
    generalize seqs (fromL bs A.length W dep 0 3) = L0 at *
    have HCo := hid (fun (a : Option Addr) (c : Nat) (W' : World) h => cost_any a c (D.length : Int) L2 W' (by omega) (by omega) (by omega) hin h)
    rw [hc2] at HCo
    generalize lazyC bs A.length W dep (lazyB bs A.length W dep 2) = q at *
    generalize lazyC bs A.length W dep 0 = p at *
    unfold costR at HCo HGc
    dsimp only [Option.getD, Option.isSome] at HCo HGc
    have HSm := hid (fun a1 c1 a2 c2 W' h1 h2 => rsame_self a1 a2 c1 c2 L0 W' (by omega) h1 h2)
    have hLe := hid hle
    clear hF hb hC HM hbs hm hk hA hD hlen hac hA2 hc0 hc2 hle hin hl2 hl0 hsz hln
    go_wp2_with fail
    refine (HL0.out _ HFx1.out).mono ?_
    rintro e w2 ⟨v, rfl, hown, hb⟩
    obtain ⟨b2, c2, rfl⟩ := own_slice hown
    have HP2 := hid ((Sl.of_owns hown).cells' rfl)
    have HBw2 := hid (HBw1.out.trans (hb.mono HBw1.out.size))
    have HFx2 := hid (HFx1.out.low hb)
    clear hown hb HBw1 HFx1
    go_wp2_with fail
    refine (HGp.out _ HFx2.out).mono ?_
    rintro e w3 ⟨v, rfl, hown, hb⟩
    obtain ⟨b3, c3, rfl⟩ := own_slice hown
    have HQ3 := hid ((Sl.of_owns hown).cells' rfl)
    have HBw3 := hid (HBw2.out.trans (hb.mono HBw2.out.size))
    have HFx3 := hid (HFx2.out.low hb)
    have HP3 := hid (HP2.out.low hb)
    clear hown hb HBw2 HFx2 HP2
    go_wp2_with fail
    refine (HLp.out _ HFx3.out).mono ?_
    rintro e w4 ⟨v, rfl, hown, hb⟩
    obtain ⟨b4, c4, rfl⟩ := own_slice hown
    have HR4 := hid ((Sl.of_owns hown).cells' rfl)
    have HBw4 := hid (HBw3.out.trans (hb.mono HBw3.out.size))
    have HFx4 := hid (HFx3.out.low hb)
    have HP4 := hid (HP3.out.low hb)
    have HQ4 := hid (HQ3.out.low hb)
    clear hown hb HBw3 HFx3 HP3 HQ3
    go_wp2_with fail
    refine (HGc.out _ HFx4.out).mono ?_
    rintro e w5 ⟨rfl, hb⟩
    have HBw5 := hid (HBw4.out.trans (hb.mono HBw4.out.size))
    have HP5 := hid (HP4.out.low hb)
    have HQ5 := hid (HQ4.out.low hb)
    have HR5 := hid (HR4.out.low hb)
    clear hb HBw4 HP4 HQ4 HR4
    go_wp2_with fail
    refine (HCo.out _ _ _ HR5.out).mono ?_
    rintro e w6 ⟨rfl, hb⟩
    have HBw6 := hid (HBw5.out.trans (hb.mono HBw5.out.size))
    have HP6 := hid (HP5.out.low hb)
    have HQ6 := hid (HQ5.out.low hb)
    clear hb HBw5 HP5 HQ5
    go_wp2_with (first | (go_at_call 16; refine (num_any _ _).mono ?_; rintro e w' ⟨rfl, rfl⟩))
    refine (HSm.out b2 c2 b3 c3 _ HP6.out HQ6.out).mono ?_
    rintro e w' ⟨rfl, m, rfl⟩
    have HBf := hid (below_drewN HBw6.out m)
    have hle := hLe.out
    go_wp2_with fail
    refine (HW.out _).mono ?_
    rintro e w8 ⟨rfl, hb⟩
    go_wp2
    go_ret
    exact ⟨rfl, HBf.out.trans (hb.mono HBf.out.size)⟩
end Go.Proofs.Ytclheffeiaaodaa
namespace Go.Proofs.Ytclheffeiaaodaa.LLazyGreedy
open Go.ChangeShapes Go.WideShapes Go.ChangeAt Go.RowKit Go.Port

set_option maxRecDepth 100000 in
theorem lifted (os : Os) (started : os.Started) (H : Type) (enc : TypeId × Value → H) :
    ReturnsInHanded {} Try.checked os 7 .any (Rows.lazyGreedySpec.pre6 enc Try.prog Try.f7 Rows.lazyGreedyRow.domain false) (Rows.lazyGreedySpec.post enc Try.prog Try.f7 false true false false) := by
  refine returnsInHanded_of_change (C := Try.checked) Try.own started (by kernel_rfl) Try.func7
    (ChangeSpec.witness6 (enc := enc) (C := Try.checked) false ⟨#[], #[.slice none 0 0, .slice none 0 0, .int .i64 0, .int .i64 0], []⟩ 8 (by kernel_rfl) (by kernel_rfl) (by kernel_rfl) (by kernel_rfl)) ?_
  intro W base args ds gs before hval0 hW hcnd _
  have hval : ∀ (j : Nat) t v, Try.f7.params[j]? = some t → args[j]? = some v → Value.okWide Try.prog W .any base t v := hval0
  have hW' := hW
  obtain ⟨p, q, hA0, hV, rfl, hfz, hnd⟩ := hW
  have hA : DataW.TrodAll enc Try.prog W 0 (fun _ => true) true Try.f7.params.toList args.toList ds p := hA0
  rw [Try.params7] at hA hval
  obtain ⟨v0, vs0, d0, ds0, p0, q0, hargs, rfl, rfl, h0, r0⟩ := trodAll_cons hA
  obtain ⟨v1, vs1, d1, ds1, p1, q1, rfl, rfl, rfl, h1, r1⟩ := trodAll_cons r0
  obtain ⟨v2, vs2, d2, ds2, p2, q2, rfl, rfl, rfl, h2, r2⟩ := trodAll_cons r1
  obtain ⟨v3, vs3, d3, ds3, p3, q3, rfl, rfl, rfl, h3, r3⟩ := trodAll_cons r2
  obtain ⟨rfl, rfl, rfl⟩ := trodAll_nil r3
  obtain rfl : args = #[v0, v1, v2, v3] := by cases args; simp_all
  obtain ⟨rfl, rfl⟩ := trodVars_none hV
  obtain ⟨l0, hl0, wl0⟩ := open_rowV Try.underlying22 Try.underlying5 (by kernel_rfl) (hval 0 22 v0 rfl rfl) h0
  obtain ⟨bs0, hbs0, hn0⟩ := bytes_of wl0
  rw [hbs0, ← hn0] at hl0
  obtain ⟨l1, hl1, wl1⟩ := open_rowV Try.underlying22 Try.underlying5 (by kernel_rfl) (hval 1 22 v1 rfl rfl) h1
  obtain ⟨bs1, hbs1, hn1⟩ := bytes_of wl1
  rw [hbs1, ← hn1] at hl1
  obtain ⟨a2, rfl, rfl, rfl, w2⟩ := open_int Try.underlying3 (hval 2 3 v2 rfl rfl) h2
  obtain ⟨a3, rfl, rfl, rfl, w3⟩ := open_int Try.underlying3 (hval 3 3 v3 rfl rfl) h3
  clear hA0 hval0
  simp only [List.append_nil] at hW'
  refine (LazyGreedy_walk W v0 bs0 hl0 v1 bs1 hl1 a2 a3).mono fun e W' ⟨he, hb⟩ => ?_
  subst he
  exact ⟨_, rfl, law_post Try.kids Try.full Try.underlying4 rfl rfl hW' (by rw [Try.params7]; decide) rfl rfl rfl hb⟩

theorem over : Rows.lazyGreedyRow.holds Try.pinned (OpenSpec.ofChange Rows.lazyGreedySpec) :=
  OpenClaim.holds_of_wide 7 Try.f7 rfl rfl rfl rfl rfl rfl rfl ⟨rfl, rfl, rfl, rfl, rfl⟩ rfl rfl rfl rfl rfl (by kernel_rfl) Try.func7 (by kernel_rfl)
    (of_decide_eq_true (by kernel_rfl)) (by unfold Func.isWrapper; first | (rw [if_pos (by decide +kernel)]; kernel_rfl) | (rw [if_neg (by decide +kernel)]; exact ⟨rfl, rfl⟩))
    (fun os started H enc _ => lifted os started H enc)

/-- The statement. -/
theorem proved : Rows.LazyGreedySaid :=
  over
end Go.Proofs.Ytclheffeiaaodaa.LLazyGreedy
