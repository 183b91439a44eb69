/-
  The law MatchLonger: for at most 200 bytes, any positions and limits, a limit only cuts the length of a match, and the bytes that are counted before two positions are a match. No condition.
-/
import Derived.Test.YtaoiaiddamnbiaaMatchM
namespace Go.Port
open Go.RowKit
theorem lenS_min (b : List UInt8) (pos frm m : Int) : ((lenS b pos frm m : Nat) : Int) = max 0 (min ((lenS b pos frm ((b.length : Int) + 1) : Nat) : Int) m) := by
  unfold lenS
  split
  · have h := cpl_min m.toNat (((b.length : Int) + 1).toNat) (b.drop pos.toNat) (b.drop frm.toNat) (by rw [List.length_drop]; omega)
    rw [h]
    omega
  · omega
theorem backS_match (b : List UInt8) (pos frm : Int) (h : 0 < backS b pos frm 0) :
    0 ≤ frm ∧ frm < pos ∧ pos ≤ (b.length : Int) ∧ (backS b pos frm 0 : Int) ≤ frm ∧ lenS b (pos - (backS b pos frm 0 : Nat)) (frm - (backS b pos frm 0 : Nat)) (backS b pos frm 0 : Nat) = backS b pos frm 0 := by
  cases he : earlierB b.length pos frm with
  | false =>
    unfold backS at h
    rw [he] at h
    simp at h
  | true =>
    obtain ⟨p, q, rfl, rfl, hqp, hpn⟩ := earlier_iff he
    have hk : backS b (p : Int) (q : Int) 0 = cpl p (b.take p).reverse (b.take q).reverse := by
      unfold backS
      rw [he]
      simp
    rw [hk] at h ⊢
    have hle := cpl_le p (b.take p).reverse (b.take q).reverse
    have hm := fun k (h : k < cpl p (b.take p).reverse (b.take q).reverse) => back_more (F := p) hpn (by omega) h
    generalize cpl p (b.take p).reverse (b.take q).reverse = K at *
    obtain ⟨_, _, hKq⟩ := hle
    rw [List.length_reverse, List.length_take] at hKq
    have hKq' : K ≤ q := by omega
    refine ⟨by omega, by omega, by omega, by omega, ?_⟩
    have e1 : (p : Int) - (K : Int) = ((p - K : Nat) : Int) := by omega
    have e2 : (q : Int) - (K : Int) = ((q - K : Nat) : Int) := by omega
    rw [e1, e2]
    have he2 : earlierB b.length ((p - K : Nat) : Int) ((q - K : Nat) : Int) = true := by
      unfold earlierB
      simp only [Bool.and_eq_true, decide_eq_true_eq]
      omega
    unfold lenS
    rw [he2, if_pos rfl]
    simp only [Int.toNat_natCast]
    refine Nat.le_antisymm (cpl_le _ _ _).1 ?_
    refine cpl_ge _ _ _ K (Nat.le_refl _) (by rw [List.length_drop]; omega) (by rw [List.length_drop]; omega) (fun j hj => ?_)
    rw [List.getElem?_drop, List.getElem?_drop]
    obtain ⟨_, _, _, h4⟩ := hm (K - 1 - j) (by omega)
    rw [show p - K + j = p - 1 - (K - 1 - j) by omega, show q - K + j = q - 1 - (K - 1 - j) by omega]
    exact h4
end Go.Port
namespace Go.Proofs.Ytaoiaiddamnbiaa
open Go.RowKit Go.Port

set_option maxRecDepth 100000 in
set_option maxHeartbeats 2000000 in
theorem MatchLonger_walk (w : World) (vb : Value) (bs : List UInt8) (hvb : Rs w 1 vb bs.length (bs.map bv)) (pos : Int) (_ : -9223372036854775808 ≤ pos ∧ pos ≤ 9223372036854775807) (frm : Int) (_ : -9223372036854775808 ≤ frm ∧ frm ≤ 9223372036854775807)
    (one : Int) (_ : -9223372036854775808 ≤ one ∧ one ≤ 9223372036854775807) (two : Int) (_ : -9223372036854775808 ≤ two ∧ two ≤ 9223372036854775807) :
    Calls Try.prog 6 #[vb, .int .i64 pos, .int .i64 frm, .int .i64 one, .int .i64 two] w (RetV w (.bool true)) := by
  obtain ⟨_, ab, cb, rfl, hnb, hbm, hab, hbcell⟩ := hvb
  have HW := hid works_any
  by_cases h4 : 200 < bs.length
  · clear hbcell
    go_enter Try.func6, Try.ntmps6
    go_wp2_with (go_at_call 11; refine (HW.out _).mono ?_; rintro e w' ⟨rfl, hb⟩)
    go_ret
    exact ⟨rfl, hb⟩
  · have H0 := hid (fun W (hW : Below w.heap.size w W) => len_any ab cb bs pos frm ((bs.length : Int) + 1) W (by omega) hnb (at_same hbcell hW))
    have H1 := hid (fun W (hW : Below w.heap.size w W) => len_any ab cb bs pos frm one W (by omega) hnb (at_same hbcell hW))
    have H2 := hid (fun W (hW : Below w.heap.size w W) => len_any ab cb bs pos frm two W (by omega) hnb (at_same hbcell hW))
    have HB := hid (fun W (hW : Below w.heap.size w W) => lenb_any ab cb bs pos frm 0 W (by omega) (at_same hbcell hW))
    have H3 := hid (fun W (hW : Below w.heap.size w W) => len_any ab cb bs (pos - (backS bs pos frm 0 : Nat)) (frm - (backS bs pos frm 0 : Nat)) (backS bs pos frm 0 : Nat) W (by omega) hnb (at_same hbcell hW))
    have e1 := lenS_min bs pos frm one
    have e2 := lenS_min bs pos frm two
    have e3 := backS_match bs pos frm
    generalize lenS bs pos frm ((bs.length : Int) + 1) = X0 at *
    generalize lenS bs pos frm one = X1 at *
    generalize lenS bs pos frm two = X2 at *
    generalize backS bs pos frm 0 = K at *
    generalize lenS bs (pos - (K : Nat)) (frm - (K : Nat)) (K : Nat) = X3 at *
    have e1' := e1.symm
    have e2' := e2.symm
    have hw1 : IntKind.i64.wrap ((bs.length : Int) + 1) = (bs.length : Int) + 1 := by rw [IntKind.wrap_i64]; omega
    clear hbcell e1 e2
    go_enter Try.func6, Try.ntmps6
    go_wp2_with fail
    refine (H0.out _ (Below.refl _ _)).mono ?_
    rintro e w1 ⟨rfl, hb1⟩
    have HB1 := hid hb1
    clear hb1
    go_wp2_with fail
    refine (H1.out _ HB1.out).mono ?_
    rintro e w2 ⟨rfl, hb2⟩
    have HB2 := hid (HB1.out.trans (hb2.mono HB1.out.size))
    clear hb2
    go_wp2_with fail
    refine (H2.out _ HB2.out).mono ?_
    rintro e w3 ⟨rfl, hb3⟩
    have HB3 := hid (HB2.out.trans (hb3.mono HB2.out.size))
    clear hb3
    go_wp2_with fail
    refine (HB.out _ HB3.out).mono ?_
    rintro e w4 ⟨rfl, hb4⟩
    have HB4 := hid (HB3.out.trans (hb4.mono HB3.out.size))
    clear hb4
    by_cases hk : 0 < K
    · obtain ⟨f1, f2, f3, f4, rfl⟩ := e3 hk
      have hw2 : IntKind.i64.wrap (pos - (X3 : Int)) = pos - (X3 : Int) := by rw [IntKind.wrap_i64]; omega
      have hw3 : IntKind.i64.wrap (frm - (X3 : Int)) = frm - (X3 : Int) := by rw [IntKind.wrap_i64]; omega
      go_wp2_with fail
      refine (H3.out _ HB4.out).mono ?_
      rintro e w5 ⟨rfl, hb5⟩
      have HB5 := hid (HB4.out.trans (hb5.mono HB4.out.size))
      clear hb5
      go_wp2_with fail
      refine (HW.out _).mono ?_
      rintro e w6 ⟨rfl, hb6⟩
      go_wp2
      go_ret
      exact ⟨rfl, HB5.out.trans (hb6.mono HB5.out.size)⟩
    · clear e3
      go_wp2_with fail
      refine (HW.out _).mono ?_
      rintro e w6 ⟨rfl, hb6⟩
      go_wp2
      go_ret
      exact ⟨rfl, HB4.out.trans (hb6.mono HB4.out.size)⟩
end Go.Proofs.Ytaoiaiddamnbiaa
namespace Go.Proofs.Ytaoiaiddamnbiaa.LMatchLonger
open Go.ChangeShapes Go.WideShapes Go.ChangeAt Go.RowKit Go.Port

set_option maxRecDepth 100000 in
theorem lifted (os : Os) (started : os.Started) (H : Type) (enc : TypeId × Value → H) :
    ReturnsInHanded {} Try.checked os 6 .any (Rows.matchLongerSpec.pre6 enc Try.prog Try.f6 Rows.matchLongerRow.domain false) (Rows.matchLongerSpec.post enc Try.prog Try.f6 false true false false) := by
  refine returnsInHanded_of_change (C := Try.checked) Try.own started (by kernel_rfl) Try.func6
    (ChangeSpec.witness6 (enc := enc) (C := Try.checked) false ⟨#[], #[.slice none 0 0, .int .i64 0, .int .i64 0, .int .i64 0, .int .i64 0], []⟩ 8 (by kernel_rfl) (by kernel_rfl) (by kernel_rfl) (by kernel_rfl)) ?_
  intro W base args ds gs before hval0 hW hcnd _
  have hval : ∀ (j : Nat) t v, Try.f6.params[j]? = some t → args[j]? = some v → Value.okWide Try.prog W .any base t v := hval0
  have hW' := hW
  obtain ⟨p, q, hA0, hV, rfl, hfz, hnd⟩ := hW
  have hA : DataW.TrodAll enc Try.prog W 0 (fun _ => true) true Try.f6.params.toList args.toList ds p := hA0
  rw [Try.params6] at hA hval
  obtain ⟨v0, vs0, d0, ds0, p0, q0, hargs, rfl, rfl, h0, r0⟩ := trodAll_cons hA
  obtain ⟨v1, vs1, d1, ds1, p1, q1, rfl, rfl, rfl, h1, r1⟩ := trodAll_cons r0
  obtain ⟨v2, vs2, d2, ds2, p2, q2, rfl, rfl, rfl, h2, r2⟩ := trodAll_cons r1
  obtain ⟨v3, vs3, d3, ds3, p3, q3, rfl, rfl, rfl, h3, r3⟩ := trodAll_cons r2
  obtain ⟨v4, vs4, d4, ds4, p4, q4, rfl, rfl, rfl, h4, r4⟩ := trodAll_cons r3
  obtain ⟨rfl, rfl, rfl⟩ := trodAll_nil r4
  obtain rfl : args = #[v0, v1, v2, v3, v4] := by cases args; simp_all
  obtain ⟨rfl, rfl⟩ := trodVars_none hV
  obtain ⟨l0, hl0, wl0⟩ := open_rowV Try.underlying22 Try.underlying5 (by kernel_rfl) (hval 0 22 v0 rfl rfl) h0
  obtain ⟨bs0, hbs0, hn0⟩ := bytes_of wl0
  rw [hbs0, ← hn0] at hl0
  obtain ⟨a1, rfl, rfl, rfl, w1⟩ := open_int Try.underlying3 (hval 1 3 v1 rfl rfl) h1
  obtain ⟨a2, rfl, rfl, rfl, w2⟩ := open_int Try.underlying3 (hval 2 3 v2 rfl rfl) h2
  obtain ⟨a3, rfl, rfl, rfl, w3⟩ := open_int Try.underlying3 (hval 3 3 v3 rfl rfl) h3
  obtain ⟨a4, rfl, rfl, rfl, w4⟩ := open_int Try.underlying3 (hval 4 3 v4 rfl rfl) h4
  clear hA0 hval0
  simp only [List.append_nil] at hW'
  refine (MatchLonger_walk W v0 bs0 hl0 a1 (bounds_i64 w1) a2 (bounds_i64 w2) a3 (bounds_i64 w3) a4 (bounds_i64 w4)).mono fun e W' ⟨he, hb⟩ => ?_
  subst he
  exact ⟨_, rfl, law_post Try.kids Try.full Try.underlying4 rfl rfl hW' (by rw [Try.params6]; decide) rfl rfl rfl hb⟩

theorem over : Rows.matchLongerRow.holds Try.pinned (OpenSpec.ofChange Rows.matchLongerSpec) :=
  OpenClaim.holds_of_wide 6 Try.f6 rfl rfl rfl rfl rfl rfl rfl ⟨rfl, rfl, rfl, rfl, rfl⟩ rfl rfl rfl rfl rfl (by kernel_rfl) Try.func6 (by kernel_rfl)
    (of_decide_eq_true (by kernel_rfl)) (by unfold Func.isWrapper; first | (rw [if_pos (by decide +kernel)]; kernel_rfl) | (rw [if_neg (by decide +kernel)]; exact ⟨rfl, rfl⟩))
    (fun os started H enc _ => lifted os started H enc)

/-- The statement. -/
theorem proved : Rows.MatchLongerSaid :=
  over
end Go.Proofs.Ytaoiaiddamnbiaa.LMatchLonger
