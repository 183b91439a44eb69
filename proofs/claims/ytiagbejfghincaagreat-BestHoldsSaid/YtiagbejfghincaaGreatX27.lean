/-
  The walks of layer 28, fifth part: all matches with earlier positions. The walks of layer 28, sixth part: the first one in an order; the best match. The walks of layer 28, seventh part: the best match.
-/
import Derived.Test.YtiagbejfghincaaGreatX26
import Derived.Test.YtiagbejfghincaaGreatX08
import Derived.Laws.AppendOwnNone
namespace Go.Port
open Go.RowKit
/-- A sequence's cells. -/
def sqc (s : Sq) : List Value := [.int .i64 s.lit, .int .i64 s.len, .int .i64 s.off]
theorem sqc_length (l : List Sq) : (l.flatMap sqc).length = l.length * 3 := by
  induction l with
  | nil => rfl
  | cons x r ih => simp only [List.flatMap_cons, List.length_append, ih, List.length_cons, sqc, List.length_nil]; omega
theorem matchesS_length (b : List UInt8) (pos most : Int) (l : List Int) : (matchesS b pos most l).length ≤ l.length := by
  induction l with
  | nil => exact Nat.le_refl _
  | cons x r ih =>
    unfold matchesS
    split <;> simp <;> omega
theorem lenS_le (b : List UInt8) (pos frm most : Int) : lenS b pos frm most ≤ b.length := by
  unfold lenS
  split
  · have := (cpl_le most.toNat (b.drop pos.toNat) (b.drop frm.toNat)).2.1
    rw [List.length_drop] at this
    omega
  · omega
end Go.Port
namespace Go.Proofs.YtiagbejfghincaaGreat
open Go.RowKit Go.Port
theorem Tryz.info_seq : (Tryz.prog.info? 44).map (fun i => (i.zero, i.size, i.bytes)) = some (some (.agg #[.int .i64 0, .int .i64 0, .int .i64 0]), 3, 24) := by kernel_rfl
set_option maxRecDepth 100000 in
set_option maxHeartbeats 2000000 in
theorem matches_any (a a2 : Option Addr) (c c2 : Nat) (b : List UInt8) (pos most : Int) (frm : List Int) (w : World) (hb : b.length ≤ 1000000) (hbc : b.length ≤ c) (hf : frm.length ≤ 100000)
    (hc : ∀ j u, (b.map bv)[j]? = some u → ∃ bl off, a = some ⟨bl, off, none⟩ ∧ bl < w.heap.size ∧ w.cell? ⟨bl, off + j, none⟩ = some u)
    (hc2 : ∀ j u, (frm.map iv)[j]? = some u → ∃ bl off, a2 = some ⟨bl, off, none⟩ ∧ bl < w.heap.size ∧ w.cell? ⟨bl, off + j, none⟩ = some u) :
    Calls Tryz.prog 128 #[.slice a b.length c, .int .i64 pos, .int .i64 most, .slice a2 frm.length c2] w fun e w' => ∃ v, e = .returned v ∧ w'.ownsRow (w.heap.size + 1) 44 3 v (matchesS b pos most frm).length ((matchesS b pos most frm).flatMap sqc) ∧ Below w.heap.size w w' := by
  have HC := hid (fun W (hW : Below w.heap.size w W) j u (hu : (b.map bv)[j]? = some u) => (show ∃ bl off, a = some ⟨bl, off, none⟩ ∧ bl < W.heap.size ∧ W.cell? ⟨bl, off + j, none⟩ = some u from by
    obtain ⟨bl, off, h1, h2, h3⟩ := hc j u hu
    exact ⟨bl, off, h1, Nat.lt_of_lt_of_le h2 hW.size, (hW.cell (p := ⟨bl, off + j, none⟩) h2).trans h3⟩))
  have HC2 := hid (fun W (hW : Below w.heap.size w W) j u (hu : (frm.map iv)[j]? = some u) => (show ∃ bl off, a2 = some ⟨bl, off, none⟩ ∧ bl < W.heap.size ∧ W.cell? ⟨bl, off + j, none⟩ = some u from by
    obtain ⟨bl, off, h1, h2, h3⟩ := hc2 j u hu
    exact ⟨bl, off, h1, Nat.lt_of_lt_of_le h2 hW.size, (hW.cell (p := ⟨bl, off + j, none⟩) h2).trans h3⟩))
  clear hc hc2
  have hB := below_new w (.cells #[.slice a b.length c, .int .i64 pos, .int .i64 most] 211)
  have hP := Blk.new w [.slice a b.length c, .int .i64 pos, .int .i64 most] 211
  have HB := hid hB
  have HPl := hid hP
  clear hB hP
  go_enter Tryz.func128, Tryz.ntmps128
  go_wp2
  go_loopw [8, 19] (fun v i wr => ∃ k : Nat, k ≤ frm.length ∧ i = .int .i64 k ∧ wr.ownsRow (w.heap.size + 1) 44 3 v (matchesS b pos most (frm.take k)).length ((matchesS b pos most (frm.take k)).flatMap sqc) ∧ Blk wr w.heap.size [.slice a b.length c, .int .i64 pos, .int .i64 most] 211 ∧ Below w.heap.size w wr) (fun _ i _ => frm.length - (intOf i).toNat)
  case atStart => exact ⟨0, Nat.zero_le _, rfl, World.ownsRow_nil _ _ _ _, HPl.out, HB.out⟩
  case round =>
    obtain ⟨k, hk, rfl, hown, hPr, hBr⟩ := hrel
    by_cases hlt : k < frm.length
    · obtain ⟨x, hx⟩ : ∃ x, frm[k]? = some x := ⟨frm[k], by simp [hlt]⟩
      obtain ⟨bl2, off2, rfl, _, hcx⟩ := HC2.out wr hBr k (iv x) (by rw [List.getElem?_map, hx]; rfl)
      have hst : matchesS b pos most (frm.take (k + 1)) = matchesS b pos most (frm.take k) ++ matchesS b pos most [x] := by
        obtain ⟨h1, h2⟩ := List.getElem?_eq_some_iff.1 hx
        rw [List.take_succ_eq_append_getElem h1, h2, matchesS_append]
      have HST := hid hst
      have HE := hid (earlier_any a b.length c pos x wr)
      have c0 := hPr.cell (k := 0) rfl
      have HO := hid hown
      have HPr := hid hPr
      have HBr := hid hBr
      have hszw : w.heap.size + 1 ≤ wr.heap.size := hPr.lt
      unfold iv at hcx
      clear hst hown hPr hBr hx
      cases he : earlierB b.length pos x with
      | false =>
        rw [he] at HE
        have HM := hid (show matchesS b pos most [x] = [] from by unfold matchesS; rw [he]; rfl)
        clear he
        go_wp2_with fail
        refine HE.out.mono ?_
        rintro e w1 ⟨rfl, hb1⟩
        have HB1 := hid hb1
        clear hb1
        go_wp2
        go_roundw
        case rel =>
          refine ⟨k + 1, hlt, by go_num, ?_, HPr.out.below HB1.out HPr.out.lt, HBr.out.trans (HB1.out.mono HBr.out.size)⟩
          rw [HST.out, HM.out, List.append_nil]
          exact own_low HO.out HB1.out
        case measure => simp [intOf]; omega
      | true =>
        rw [he] at HE
        have hM : matchesS b pos most [x] = [⟨0, (lenS b pos x most : Nat), pos - x⟩] := by unfold matchesS; rw [he]; rfl
        have hll := lenS_le b pos x most
        have hml := matchesS_length b pos most (frm.take k)
        obtain ⟨p, q, rfl, rfl, hqp, hpn⟩ := earlier_iff he
        have hlS : lenS b (p : Int) (q : Int) most = cpl most.toNat (b.drop p) (b.drop q) := by unfold lenS; rw [he]; rfl
        rw [hlS] at hM hll
        rw [List.length_take] at hml
        have hw1 : IntKind.i64.wrap ((p : Int) - (q : Int)) = (p : Int) - (q : Int) := by rw [IntKind.wrap_i64]; omega
        have HM := hid hM
        clear he hM hlS
        go_wp2_with fail
        refine HE.out.mono ?_
        rintro e w1 ⟨rfl, hb1⟩
        have hbl := HPr.out.below hb1 HPr.out.lt
        have HB1 := hid (HBr.out.trans (hb1.mono HBr.out.size))
        have HO1 := hid (own_low HO.out hb1)
        have d0 := hbl.cell (k := 0) rfl
        have d1 := hbl.cell (k := 1) rfl
        have d2 := hbl.cell (k := 2) rfl
        have HL := hid (length_any a c p q b most w1 hb hbc hqp hpn (HC.out w1 HB1.out))
        have HPb := hid hbl
        clear hb1 hbl
        go_wp2_with fail
        refine HL.out.mono ?_
        rintro e w2 ⟨rfl, hb2⟩
        have HB2 := hid (HB1.out.trans (hb2.mono HB1.out.size))
        have HO2 := hid (own_low HO1.out hb2)
        have HP2 := hid (HPb.out.below hb2 HPb.out.lt)
        obtain ⟨av, cv, rfl⟩ := own_slice HO2.out
        have hsz2 : w.heap.size + 1 ≤ w2.heap.size := HP2.out.lt
        clear hb2
        go_wp2_with (at_builtin; refine Hid.out ?_)
        refine hid ?_
        refine wpList_append1 rfl _ _ 38 rfl 44 _ 3 24 Tryz.underlying38 Tryz.info_seq rfl (by decide) (by decide) _ (w.heap.size + 1) _ _ _ [.int .i64 0, .int .i64 ((cpl most.toNat (b.drop p) (b.drop q) : Nat) : Int), .int .i64 ((p : Int) - (q : Int))] rfl ?hu rfl rfl (by exact HO2.out) ?hn ?hb ?hk
        case hu => simp [Value.oneCell']
        case hn => omega
        case hb => exact hsz2
        case hk =>
          intro v' w3 hown' hg
          have hbg := below_grown HO2.out hg hsz2
          have HB3 := hid (HB2.out.trans (hbg.mono (Nat.le_succ _)))
          have HP3 := hid (HP2.out.below hbg (Nat.lt_succ_self _))
          have HO3 := hid hown'
          clear hown' hg hbg
          go_wp2
          go_roundw
          case rel =>
            refine ⟨k + 1, hlt, by go_num, ?_, HP3.out, HB3.out⟩
            have h3 := HO3.out
            rw [HST.out, HM.out, List.length_append, List.flatMap_append]
            exact h3
          case measure => simp [intOf]; omega
    · obtain rfl : k = frm.length := by omega
      rw [List.take_of_length_le (Nat.le_refl _)] at hown
      have HO := hid hown
      have HBr := hid hBr
      clear hown hPr hBr
      go_wp2
      go_ret
      exact ⟨_, rfl, HO.out, HBr.out⟩
end Go.Proofs.YtiagbejfghincaaGreat
namespace Go.Port
open Go.RowKit
def sqv (s : Sq) : Value := .agg #[.int .i64 s.lit, .int .i64 s.len, .int .i64 s.off]
theorem sqc_get {l : List Sq} {k : Nat} {x : Sq} (h : l[k]? = some x) (j : Nat) (hj : j < 3) : (l.flatMap sqc)[k * 3 + j]? = (sqc x)[j]? := by
  obtain ⟨h1, rfl⟩ := List.getElem?_eq_some_iff.1 h
  have e : l = l.take k ++ l[k] :: l.drop (k + 1) := by rw [← List.drop_eq_getElem_cons h1, List.take_append_drop]
  have hl : ((l.take k).flatMap sqc).length = k * 3 := by rw [sqc_length, List.length_take, Nat.min_eq_left (Nat.le_of_lt h1)]
  have e2 : l.flatMap sqc = (l.take k).flatMap sqc ++ (sqc l[k] ++ (l.drop (k + 1)).flatMap sqc) := by
    conv => lhs; rw [e]
    rw [List.flatMap_append, List.flatMap_cons]
  rw [e2, List.getElem?_append_right (by omega), hl, Nat.add_sub_cancel_left, List.getElem?_append_left (by simp [sqc]; omega)]
end Go.Port
namespace Go.Proofs.YtiagbejfghincaaGreat
open Go.RowKit Go.Port
end Go.Proofs.YtiagbejfghincaaGreat
namespace Go.Proofs.YtiagbejfghincaaGreat
open Go.RowKit Go.Port
end Go.Proofs.YtiagbejfghincaaGreat
