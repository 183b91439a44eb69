/-
  The walks of layer 28, fifth part: all matches with earlier positions. The walks of layer 28, sixth part: the first one in an order; the best match. The walks of layer 28, seventh part: the best match.
-/
import Derived.Test.YtlgablepckmogaaGreatQ06
import Derived.Test.YtlgablepckmogaaGreatQ03
import Derived.Laws.AppendOwnNone
namespace Go.Port
open Go.RowKit
/-- A sequence's cells. -/
def sqc (s : Sq) : List Value := [.int .i64 s.lit, .int .i64 s.len, .int .i64 s.off]
theorem sqc_length (l : List Sq) : (l.flatMap sqc).length = l.length * 3 := by
  induction l with
  | nil => rfl
  | cons x r ih => simp only [List.flatMap_cons, List.length_append, ih, List.length_cons, sqc, List.length_nil]; omega
theorem matchesS_length (b : List UInt8) (pos most : Int) (l : List Int) : (matchesS b pos most l).length ≤ l.length := by
  induction l with
  | nil => exact Nat.le_refl _
  | cons x r ih =>
    unfold matchesS
    split <;> simp <;> omega
theorem lenS_le (b : List UInt8) (pos frm most : Int) : lenS b pos frm most ≤ b.length := by
  unfold lenS
  split
  · have := (cpl_le most.toNat (b.drop pos.toNat) (b.drop frm.toNat)).2.1
    rw [List.length_drop] at this
    omega
  · omega
end Go.Port
namespace Go.Proofs.YtlgablepckmogaaGreat
open Go.RowKit Go.Port
theorem Tryz.info_seq : (Tryz.prog.info? 43).map (fun i => (i.zero, i.size, i.bytes)) = some (some (.agg #[.int .i64 0, .int .i64 0, .int .i64 0]), 3, 24) := by kernel_rfl
set_option maxRecDepth 100000 in
set_option maxHeartbeats 2000000 in
theorem matches_any (a a2 : Option Addr) (c c2 : Nat) (b : List UInt8) (pos most : Int) (frm : List Int) (w : World) (hb : b.length ≤ 1000000) (hbc : b.length ≤ c) (hf : frm.length ≤ 100000)
    (hc : ∀ j u, (b.map bv)[j]? = some u → ∃ bl off, a = some ⟨bl, off, none⟩ ∧ bl < w.heap.size ∧ w.cell? ⟨bl, off + j, none⟩ = some u)
    (hc2 : ∀ j u, (frm.map iv)[j]? = some u → ∃ bl off, a2 = some ⟨bl, off, none⟩ ∧ bl < w.heap.size ∧ w.cell? ⟨bl, off + j, none⟩ = some u) :
    Calls Tryz.prog 152 #[.slice a b.length c, .int .i64 pos, .int .i64 most, .slice a2 frm.length c2] w fun e w' => ∃ v, e = .returned v ∧ w'.ownsRow (w.heap.size + 1) 43 3 v (matchesS b pos most frm).length ((matchesS b pos most frm).flatMap sqc) ∧ Below w.heap.size w w' := by
  have HC := hid (fun W (hW : Below w.heap.size w W) j u (hu : (b.map bv)[j]? = some u) => (show ∃ bl off, a = some ⟨bl, off, none⟩ ∧ bl < W.heap.size ∧ W.cell? ⟨bl, off + j, none⟩ = some u from by
    obtain ⟨bl, off, h1, h2, h3⟩ := hc j u hu
    exact ⟨bl, off, h1, Nat.lt_of_lt_of_le h2 hW.size, (hW.cell (p := ⟨bl, off + j, none⟩) h2).trans h3⟩))
  have HC2 := hid (fun W (hW : Below w.heap.size w W) j u (hu : (frm.map iv)[j]? = some u) => (show ∃ bl off, a2 = some ⟨bl, off, none⟩ ∧ bl < W.heap.size ∧ W.cell? ⟨bl, off + j, none⟩ = some u from by
    obtain ⟨bl, off, h1, h2, h3⟩ := hc2 j u hu
    exact ⟨bl, off, h1, Nat.lt_of_lt_of_le h2 hW.size, (hW.cell (p := ⟨bl, off + j, none⟩) h2).trans h3⟩))
  clear hc hc2
  have hB := below_new w (.cells #[.slice a b.length c, .int .i64 pos, .int .i64 most] 247)
  have hP := Blk.new w [.slice a b.length c, .int .i64 pos, .int .i64 most] 247
  have HB := hid hB
  have HPl := hid hP
  clear hB hP
  go_enter Tryz.func152, Tryz.ntmps152
  go_wp2
  go_loopw [8, 19] (fun v i wr => ∃ k : Nat, k ≤ frm.length ∧ i = .int .i64 k ∧ wr.ownsRow (w.heap.size + 1) 43 3 v (matchesS b pos most (frm.take k)).length ((matchesS b pos most (frm.take k)).flatMap sqc) ∧ Blk wr w.heap.size [.slice a b.length c, .int .i64 pos, .int .i64 most] 247 ∧ Below w.heap.size w wr) (fun _ i _ => frm.length - (intOf i).toNat)
  case atStart => exact ⟨0, Nat.zero_le _, rfl, World.ownsRow_nil _ _ _ _, HPl.out, HB.out⟩
  case round =>
    obtain ⟨k, hk, rfl, hown, hPr, hBr⟩ := hrel
    by_cases hlt : k < frm.length
    · obtain ⟨x, hx⟩ : ∃ x, frm[k]? = some x := ⟨frm[k], by simp [hlt]⟩
      obtain ⟨bl2, off2, rfl, _, hcx⟩ := HC2.out wr hBr k (iv x) (by rw [List.getElem?_map, hx]; rfl)
      have hst : matchesS b pos most (frm.take (k + 1)) = matchesS b pos most (frm.take k) ++ matchesS b pos most [x] := by
        obtain ⟨h1, h2⟩ := List.getElem?_eq_some_iff.1 hx
        rw [List.take_succ_eq_append_getElem h1, h2, matchesS_append]
      have HST := hid hst
      have HE := hid (earlier_any a b.length c pos x wr)
      have c0 := hPr.cell (k := 0) rfl
      have HO := hid hown
      have HPr := hid hPr
      have HBr := hid hBr
      have hszw : w.heap.size + 1 ≤ wr.heap.size := hPr.lt
      unfold iv at hcx
      clear hst hown hPr hBr hx
      cases he : earlierB b.length pos x with
      | false =>
        rw [he] at HE
        have HM := hid (show matchesS b pos most [x] = [] from by unfold matchesS; rw [he]; rfl)
        clear he
        go_wp2_with fail
        refine HE.out.mono ?_
        rintro e w1 ⟨rfl, hb1⟩
        have HB1 := hid hb1
        clear hb1
        go_wp2
        go_roundw
        case rel =>
          refine ⟨k + 1, hlt, by go_num, ?_, HPr.out.below HB1.out HPr.out.lt, HBr.out.trans (HB1.out.mono HBr.out.size)⟩
          rw [HST.out, HM.out, List.append_nil]
          exact own_low HO.out HB1.out
        case measure => simp [intOf]; omega
      | true =>
        rw [he] at HE
        have hM : matchesS b pos most [x] = [⟨0, (lenS b pos x most : Nat), pos - x⟩] := by unfold matchesS; rw [he]; rfl
        have hll := lenS_le b pos x most
        have hml := matchesS_length b pos most (frm.take k)
        obtain ⟨p, q, rfl, rfl, hqp, hpn⟩ := earlier_iff he
        have hlS : lenS b (p : Int) (q : Int) most = cpl most.toNat (b.drop p) (b.drop q) := by unfold lenS; rw [he]; rfl
        rw [hlS] at hM hll
        rw [List.length_take] at hml
        have hw1 : IntKind.i64.wrap ((p : Int) - (q : Int)) = (p : Int) - (q : Int) := by rw [IntKind.wrap_i64]; omega
        have HM := hid hM
        clear he hM hlS
        go_wp2_with fail
        refine HE.out.mono ?_
        rintro e w1 ⟨rfl, hb1⟩
        have hbl := HPr.out.below hb1 HPr.out.lt
        have HB1 := hid (HBr.out.trans (hb1.mono HBr.out.size))
        have HO1 := hid (own_low HO.out hb1)
        have d0 := hbl.cell (k := 0) rfl
        have d1 := hbl.cell (k := 1) rfl
        have d2 := hbl.cell (k := 2) rfl
        have HL := hid (length_any a c p q b most w1 hb hbc hqp hpn (HC.out w1 HB1.out))
        have HPb := hid hbl
        clear hb1 hbl
        go_wp2_with fail
        refine HL.out.mono ?_
        rintro e w2 ⟨rfl, hb2⟩
        have HB2 := hid (HB1.out.trans (hb2.mono HB1.out.size))
        have HO2 := hid (own_low HO1.out hb2)
        have HP2 := hid (HPb.out.below hb2 HPb.out.lt)
        obtain ⟨av, cv, rfl⟩ := own_slice HO2.out
        have hsz2 : w.heap.size + 1 ≤ w2.heap.size := HP2.out.lt
        clear hb2
        go_wp2_with (at_builtin; refine Hid.out ?_)
        refine hid ?_
        refine wpList_append1 rfl _ _ 28 rfl 43 _ 3 24 Tryz.underlying28 Tryz.info_seq rfl (by decide) (by decide) _ (w.heap.size + 1) _ _ _ [.int .i64 0, .int .i64 ((cpl most.toNat (b.drop p) (b.drop q) : Nat) : Int), .int .i64 ((p : Int) - (q : Int))] rfl ?hu rfl rfl (by exact HO2.out) ?hn ?hb ?hk
        case hu => simp [Value.oneCell']
        case hn => omega
        case hb => exact hsz2
        case hk =>
          intro v' w3 hown' hg
          have hbg := below_grown HO2.out hg hsz2
          have HB3 := hid (HB2.out.trans (hbg.mono (Nat.le_succ _)))
          have HP3 := hid (HP2.out.below hbg (Nat.lt_succ_self _))
          have HO3 := hid hown'
          clear hown' hg hbg
          go_wp2
          go_roundw
          case rel =>
            refine ⟨k + 1, hlt, by go_num, ?_, HP3.out, HB3.out⟩
            have h3 := HO3.out
            rw [HST.out, HM.out, List.length_append, List.flatMap_append]
            exact h3
          case measure => simp [intOf]; omega
    · obtain rfl : k = frm.length := by omega
      rw [List.take_of_length_le (Nat.le_refl _)] at hown
      have HO := hid hown
      have HBr := hid hBr
      clear hown hPr hBr
      go_wp2
      go_ret
      exact ⟨_, rfl, HO.out, HBr.out⟩
end Go.Proofs.YtlgablepckmogaaGreat
namespace Go.Port
open Go.RowKit
def sqv (s : Sq) : Value := .agg #[.int .i64 s.lit, .int .i64 s.len, .int .i64 s.off]
def stepF (f : Sq → Sq → Bool) (x : Sq) : Option Sq → Sq
  | none => x
  | some y => if f x y then x else y
theorem firstGo_snoc (f : Sq → Sq → Bool) (l : List Sq) (x : Sq) : ∀ o : Option Sq, firstGo f o (l ++ [x]) = some (stepF f x (firstGo f o l)) := by
  induction l with
  | nil =>
    intro o
    cases o with
    | none => rfl
    | some y => simp only [List.nil_append, firstGo, stepF]; split <;> rfl
  | cons z r ih =>
    intro o
    cases o with
    | none => exact ih _
    | some y => exact ih _
theorem sqc_get {l : List Sq} {k : Nat} {x : Sq} (h : l[k]? = some x) (j : Nat) (hj : j < 3) : (l.flatMap sqc)[k * 3 + j]? = (sqc x)[j]? := by
  obtain ⟨h1, rfl⟩ := List.getElem?_eq_some_iff.1 h
  have e : l = l.take k ++ l[k] :: l.drop (k + 1) := by rw [← List.drop_eq_getElem_cons h1, List.take_append_drop]
  have hl : ((l.take k).flatMap sqc).length = k * 3 := by rw [sqc_length, List.length_take, Nat.min_eq_left (Nat.le_of_lt h1)]
  have e2 : l.flatMap sqc = (l.take k).flatMap sqc ++ (sqc l[k] ++ (l.drop (k + 1)).flatMap sqc) := by
    conv => lhs; rw [e]
    rw [List.flatMap_append, List.flatMap_cons]
  rw [e2, List.getElem?_append_right (by omega), hl, Nat.add_sub_cancel_left, List.getElem?_append_left (by simp [sqc]; omega)]
end Go.Port
namespace Go.Proofs.YtlgablepckmogaaGreat
open Go.RowKit Go.Port
set_option maxHeartbeats 800000 in
theorem best1_any (x y : Sq) (w : World) :
    Calls Tryz.prog 153 #[sqv x, sqv y] w (RetV w (.bool (aheadB x y))) := by
  obtain ⟨xl, xn, xo⟩ := x
  obtain ⟨yl, yn, yo⟩ := y
  unfold sqv aheadB
  dsimp only
  have HB := hid ((below_new w (.cells #[.int .i64 xl, .int .i64 xn, .int .i64 xo] 43)).alloc (by simp) (.cells #[.int .i64 yl, .int .i64 yn, .int .i64 yo] 43))
  by_cases h1 : yn < xn
  · go_enter Tryz.func153, Tryz.ntmps153
    go_wp2
    go_ret
    exact ⟨by simp [h1], HB.out⟩
  · by_cases h2 : xn = yn
    · subst h2
      go_enter Tryz.func153, Tryz.ntmps153
      go_wp2
      go_ret
      exact ⟨by simp, HB.out⟩
    · go_enter Tryz.func153, Tryz.ntmps153
      go_wp2
      go_ret
      exact ⟨by simp; omega, HB.out⟩
set_option maxRecDepth 100000 in
set_option maxHeartbeats 2000000 in
theorem first_any (a : Option Addr) (c : Nat) (l : List Sq) (w : World) (hl : l.length ≤ 100000)
    (hc : ∀ j u, (l.flatMap sqc)[j]? = some u → ∃ bl off, a = some ⟨bl, off, none⟩ ∧ bl < w.heap.size ∧ w.cell? ⟨bl, off + j, none⟩ = some u) :
    Calls Tryz.prog 151 #[.slice a l.length c, .func (.func 153) #[] #[]] w (RetV w (.tuple #[sqv ((firstGo aheadB none l).getD Sq.zero), .bool (firstGo aheadB none l).isSome])) := by
  have HC := hid (fun W (hW : Below w.heap.size w W) j u (hu : (l.flatMap sqc)[j]? = some u) => (show ∃ bl off, a = some ⟨bl, off, none⟩ ∧ bl < W.heap.size ∧ W.cell? ⟨bl, off + j, none⟩ = some u from by
    obtain ⟨bl, off, h1, h2, h3⟩ := hc j u hu
    exact ⟨bl, off, h1, Nat.lt_of_lt_of_le h2 hW.size, (hW.cell (p := ⟨bl, off + j, none⟩) h2).trans h3⟩))
  clear hc
  have HB := hid (below_new w (.cells #[.int .i64 0, .int .i64 0, .int .i64 0] 43))
  have HP := hid (Blk.new w [.int .i64 0, .int .i64 0, .int .i64 0] 43)
  go_enter Tryz.func151, Tryz.ntmps151
  go_wp2
  go_loopw [5, 10] (fun v i wr => ∃ (k : Nat) (o : Option Sq), k ≤ l.length ∧ i = .int .i64 k ∧ v = .bool o.isSome ∧ Hid (firstGo aheadB none (l.take k) = o) ∧ Blk wr w.heap.size (sqc (o.getD Sq.zero)) 43 ∧ Below w.heap.size w wr) (fun _ i _ => l.length - (intOf i).toNat)
  case atStart => exact ⟨0, none, Nat.zero_le _, rfl, rfl, hid rfl, HP.out, HB.out⟩
  case round =>
    obtain ⟨k, o, hk, rfl, rfl, HF, hP, hB⟩ := hrel
    by_cases hlt : k < l.length
    · obtain ⟨x, hx⟩ : ∃ x, l[k]? = some x := ⟨l[k], by simp [hlt]⟩
      have hst : firstGo aheadB none (l.take (k + 1)) = some (stepF aheadB x o) := by
        obtain ⟨h1, h2⟩ := List.getElem?_eq_some_iff.1 hx
        rw [List.take_succ_eq_append_getElem h1, h2, firstGo_snoc, HF.out]
      obtain ⟨bl, off, rfl, hb0, c0⟩ := HC.out wr hB (k * 3 + 0) (.int .i64 x.lit) (by rw [sqc_get hx 0 (by omega)]; rfl)
      obtain ⟨bl1, off1, e1, _, c1⟩ := HC.out wr hB (k * 3 + 1) (.int .i64 x.len) (by rw [sqc_get hx 1 (by omega)]; rfl)
      cases e1
      obtain ⟨bl2, off2, e2, _, c2⟩ := HC.out wr hB (k * 3 + 2) (.int .i64 x.off) (by rw [sqc_get hx 2 (by omega)]; rfl)
      cases e2
      rw [Nat.add_zero] at c0
      rw [← Nat.add_assoc] at c1 c2
      have HST := hid hst
      have hB1 : Below w.heap.size w (wr.alloc (.cells #[.int .i64 x.lit, .int .i64 x.len, .int .i64 x.off] 43)) := hB.alloc hB.size _
      have hP1 := hP.alloc (.cells #[.int .i64 x.lit, .int .i64 x.len, .int .i64 x.off] 43)
      have hX1 := Blk.new wr [.int .i64 x.lit, .int .i64 x.len, .int .i64 x.off] 43
      have HB1 := hid hB1
      have HP1 := hid hP1
      have HX1 := hid hX1
      have hltw := hP.lt
      have HP0 := hid hP
      have HB0 := hid hB
      clear hst hB1 hP1 hX1 hP hB hx
      cases o with
      | none =>
        have p0 := HP0.out.cell (k := 0) rfl
        have p1 := HP0.out.cell (k := 1) rfl
        have p2 := HP0.out.cell (k := 2) rfl
        have z0 := HP0.out.frozen 0
        have z1 := HP0.out.frozen 1
        have z2 := HP0.out.frozen 2
        have hset := (((HP0.out.set 0 (.int .i64 x.lit)).set 1 (.int .i64 x.len)).set 2 (.int .i64 x.off)).alloc (.cells #[.int .i64 x.lit, .int .i64 x.len, .int .i64 x.off] 43)
        have hbs := ((HB0.out.setCell (p := ⟨w.heap.size, 0, none⟩) (Nat.le_refl _) (.int .i64 x.lit)).setCell (p := ⟨w.heap.size, 1, none⟩) (Nat.le_refl _) (.int .i64 x.len)).setCell (p := ⟨w.heap.size, 2, none⟩) (Nat.le_refl _) (.int .i64 x.off)
        have HSet := hid hset
        have HBs := hid (hbs.alloc hbs.size (.cells #[.int .i64 x.lit, .int .i64 x.len, .int .i64 x.off] 43))
        have HST2 := hid (show firstGo aheadB none (l.take (k + 1)) = some x from HST.out)
        clear hset hbs
        go_wp2
        go_roundw
        case rel => exact ⟨k + 1, some x, hlt, by go_num, rfl, HST2, HSet.out, HBs.out⟩
        case measure => simp [intOf]; omega
      | some y =>
        have p0 := HP0.out.cell (k := 0) rfl
        have p1 := HP0.out.cell (k := 1) rfl
        have p2 := HP0.out.cell (k := 2) rfl
        dsimp only [Option.getD, sqc] at p0 p1 p2
        have HBest := hid (fun W => best1_any x y W)
        unfold sqv at HBest
        go_wp2_with fail
        refine (HBest.out _).mono ?_
        rintro e w1 ⟨rfl, hb1⟩
        have HP2 := hid (HP1.out.below hb1 HP1.out.lt)
        have HX2 := hid (HX1.out.below hb1 HX1.out.lt)
        have HB2 := hid (HB1.out.trans (hb1.mono HB1.out.size))
        clear hb1 p0 p1 p2 HBest
        have q0 := HX2.out.cell (k := 0) rfl
        have q1 := HX2.out.cell (k := 1) rfl
        have q2 := HX2.out.cell (k := 2) rfl
        have p0 := HP2.out.cell (k := 0) rfl
        have p1 := HP2.out.cell (k := 1) rfl
        have p2 := HP2.out.cell (k := 2) rfl
        have z0 := HP2.out.frozen 0
        have z1 := HP2.out.frozen 1
        have z2 := HP2.out.frozen 2
        cases ha : aheadB x y with
        | true =>
          have HST2 := hid (show firstGo aheadB none (l.take (k + 1)) = some x from by rw [HST.out]; unfold stepF; dsimp only; rw [if_pos ha])
          have hset := ((HP2.out.set 0 (.int .i64 x.lit)).set 1 (.int .i64 x.len)).set 2 (.int .i64 x.off)
          have HSet := hid hset
          have HBs := hid (((HB2.out.setCell (p := ⟨w.heap.size, 0, none⟩) (Nat.le_refl _) (.int .i64 x.lit)).setCell (p := ⟨w.heap.size, 1, none⟩) (Nat.le_refl _) (.int .i64 x.len)).setCell (p := ⟨w.heap.size, 2, none⟩) (Nat.le_refl _) (.int .i64 x.off))
          clear hset ha
          go_wp2
          go_roundw
          case rel => exact ⟨k + 1, some x, hlt, by go_num, rfl, HST2, HSet.out, HBs.out⟩
          case measure => simp [intOf]; omega
        | false =>
          have HST2 := hid (show firstGo aheadB none (l.take (k + 1)) = some y from by rw [HST.out]; unfold stepF; dsimp only; rw [if_neg (by rw [ha]; simp)])
          clear ha
          go_wp2
          go_roundw
          case rel => exact ⟨k + 1, some y, hlt, by go_num, rfl, HST2, HP2.out, HB2.out⟩
          case measure => simp [intOf]; omega
    · obtain rfl : k = l.length := by omega
      have hF := HF.out
      rw [List.take_of_length_le (Nat.le_refl _)] at hF
      have HF2 := hid hF
      have p0 := hP.cell (k := 0) rfl
      have p1 := hP.cell (k := 1) rfl
      have p2 := hP.cell (k := 2) rfl
      have z0 := hP.frozen 0
      have z1 := hP.frozen 1
      have z2 := hP.frozen 2
      have hBs := ((hB.setCell (p := ⟨w.heap.size, 0, none⟩) (Nat.le_refl _) (.int .i64 (o.getD Sq.zero).lit)).setCell (p := ⟨w.heap.size, 1, none⟩) (Nat.le_refl _) (.int .i64 (o.getD Sq.zero).len)).setCell (p := ⟨w.heap.size, 2, none⟩) (Nat.le_refl _) (.int .i64 (o.getD Sq.zero).off)
      have HBs := hid hBs
      have HSet := hid (((hP.set 0 (.int .i64 (o.getD Sq.zero).lit)).set 1 (.int .i64 (o.getD Sq.zero).len)).set 2 (.int .i64 (o.getD Sq.zero).off))
      clear hF hBs hP hB
      go_wp2
      have r0 := HSet.out.cell (k := 0) rfl
      have r1 := HSet.out.cell (k := 1) rfl
      have r2 := HSet.out.cell (k := 2) rfl
      have hb9 := HBs.out
      rw [HF2.out]
      clear HSet HBs
      generalize ((wr.setCell ⟨w.heap.size, 0, none⟩ (.int .i64 (o.getD Sq.zero).lit)).setCell ⟨w.heap.size, 1, none⟩ (.int .i64 (o.getD Sq.zero).len)).setCell ⟨w.heap.size, 2, none⟩ (.int .i64 (o.getD Sq.zero).off) = W9 at *
      refine bodyPost_ret (v := .tuple #[sqv (o.getD Sq.zero), .bool o.isSome]) (by simp [results, Tryz.results151, go_sem, r0, r1, r2, sqv]) rfl ?_
      exact ⟨rfl, hb9⟩
end Go.Proofs.YtlgablepckmogaaGreat
namespace Go.Proofs.YtlgablepckmogaaGreat
open Go.RowKit Go.Port
set_option maxRecDepth 100000 in
set_option maxHeartbeats 2000000 in
theorem best_any (a a2 : Option Addr) (c c2 : Nat) (b : List UInt8) (pos most : Int) (frm : List Int) (w : World) (hb : b.length ≤ 1000000) (hbc : b.length ≤ c) (hf : frm.length ≤ 100000)
    (hc : ∀ j u, (b.map bv)[j]? = some u → ∃ bl off, a = some ⟨bl, off, none⟩ ∧ bl < w.heap.size ∧ w.cell? ⟨bl, off + j, none⟩ = some u)
    (hc2 : ∀ j u, (frm.map iv)[j]? = some u → ∃ bl off, a2 = some ⟨bl, off, none⟩ ∧ bl < w.heap.size ∧ w.cell? ⟨bl, off + j, none⟩ = some u) :
    Calls Tryz.prog 129 #[.slice a b.length c, .int .i64 pos, .int .i64 most, .slice a2 frm.length c2] w (RetV w (.tuple #[sqv ((bestS b pos most frm).getD Sq.zero), .bool (bestS b pos most frm).isSome])) := by
  have hB := below_new w (.cells #[.int .i64 0, .int .i64 0, .int .i64 0] 43)
  have HP := hid (Blk.new w [.int .i64 0, .int .i64 0, .int .i64 0] 43)
  have HM := hid (matches_any a a2 c c2 b pos most frm (w.alloc (.cells #[.int .i64 0, .int .i64 0, .int .i64 0] 43)) hb hbc hf
    (fun j u hu => by
      obtain ⟨bl, off, h1, h2, h3⟩ := hc j u hu
      exact ⟨bl, off, h1, Nat.lt_of_lt_of_le h2 hB.size, (hB.cell (p := ⟨bl, off + j, none⟩) h2).trans h3⟩)
    (fun j u hu => by
      obtain ⟨bl, off, h1, h2, h3⟩ := hc2 j u hu
      exact ⟨bl, off, h1, Nat.lt_of_lt_of_le h2 hB.size, (hB.cell (p := ⟨bl, off + j, none⟩) h2).trans h3⟩))
  have HB := hid hB
  have hml := matchesS_length b pos most frm
  clear hc hc2 hB
  generalize hR : Value.tuple #[sqv ((bestS b pos most frm).getD Sq.zero), .bool (bestS b pos most frm).isSome] = R
  unfold bestS at hR
  have HR := hid hR
  clear hR
  generalize matchesS b pos most frm = l at *
  go_enter Tryz.func129, Tryz.ntmps129
  go_wp2_with fail
  refine HM.out.mono ?_
  rintro e w1 ⟨v, rfl, hown, hb1⟩
  obtain ⟨av, cv, rfl⟩ := own_slice hown
  have HF := hid (first_any av cv l w1 (by omega) (fun j u hu => by
    obtain ⟨_, _, e, _, _, _, h⟩ := (Sl.of_owns hown).open
    cases e
    exact h j u hu))
  have HB1 := hid (HB.out.trans (hb1.mono HB.out.size))
  have HP1 := hid (HP.out.below hb1 HP.out.lt)
  clear hown hb1 HM
  generalize firstGo aheadB none l = o at *
  unfold sqv at HF
  go_wp2_with fail
  refine HF.out.mono ?_
  rintro e w2 ⟨rfl, hb2⟩
  have HB2 := hid (HB1.out.trans (hb2.mono HB1.out.size))
  have HP2 := hid (HP1.out.below hb2 HP1.out.lt)
  clear hb2 HF
  have p0 := HP2.out.cell (k := 0) rfl
  have p1 := HP2.out.cell (k := 1) rfl
  have p2 := HP2.out.cell (k := 2) rfl
  have z0 := HP2.out.frozen 0
  have z1 := HP2.out.frozen 1
  have z2 := HP2.out.frozen 2
  have hlt2 : w.heap.size < w2.heap.size := HP2.out.lt
  cases o with
  | none =>
    have hset := (((HP2.out.set 0 (.int .i64 0)).set 1 (.int .i64 0)).set 2 (.int .i64 0)).alloc (.cells #[.int .i64 0, .int .i64 0, .int .i64 0] 43)
    have hbs := ((HB2.out.setCell (p := ⟨w.heap.size, 0, none⟩) (Nat.le_refl _) (.int .i64 0)).setCell (p := ⟨w.heap.size, 1, none⟩) (Nat.le_refl _) (.int .i64 0)).setCell (p := ⟨w.heap.size, 2, none⟩) (Nat.le_refl _) (.int .i64 0)
    have HBs := hid (hbs.alloc hbs.size (.cells #[.int .i64 0, .int .i64 0, .int .i64 0] 43))
    have HSet := hid hset
    clear hset hbs
    dsimp only [Option.getD, Option.isSome, Sq.zero]
    go_wp2
    have r0 := HSet.out.cell (k := 0) rfl
    have r1 := HSet.out.cell (k := 1) rfl
    have r2 := HSet.out.cell (k := 2) rfl
    have hb9 := HBs.out
    clear HSet HBs p0 p1 p2 z0 z1 z2
    generalize (((w2.setCell ⟨w.heap.size, 0, none⟩ (.int .i64 0)).setCell ⟨w.heap.size, 1, none⟩ (.int .i64 0)).setCell ⟨w.heap.size, 2, none⟩ (.int .i64 0)).alloc (.cells #[.int .i64 0, .int .i64 0, .int .i64 0] 43) = W9 at *
    (try simp only [Exit.inBlock, Exit.then])
    refine bodyPost_ret (v := .tuple #[.agg #[.int .i64 0, .int .i64 0, .int .i64 0], .bool false]) (by simp [results, Tryz.results129, go_sem, r0, r1, r2]) rfl ?_
    exact ⟨by rw [← HR.out]; rfl, hb9⟩
  | some s =>
    obtain ⟨sl, sn, so⟩ := s
    by_cases h3 : sn < 3
    · skip
      have hset := (((HP2.out.set 0 (.int .i64 0)).set 1 (.int .i64 0)).set 2 (.int .i64 0)).alloc (.cells #[.int .i64 sl, .int .i64 sn, .int .i64 so] 43)
      have hbs := ((HB2.out.setCell (p := ⟨w.heap.size, 0, none⟩) (Nat.le_refl _) (.int .i64 0)).setCell (p := ⟨w.heap.size, 1, none⟩) (Nat.le_refl _) (.int .i64 0)).setCell (p := ⟨w.heap.size, 2, none⟩) (Nat.le_refl _) (.int .i64 0)
      have HBs := hid (hbs.alloc hbs.size (.cells #[.int .i64 sl, .int .i64 sn, .int .i64 so] 43))
      have HSet := hid hset
      clear hset hbs
      dsimp only [Option.getD, Option.isSome, Sq.zero]
      go_wp2
      have r0 := HSet.out.cell (k := 0) rfl
      have r1 := HSet.out.cell (k := 1) rfl
      have r2 := HSet.out.cell (k := 2) rfl
      have hb9 := HBs.out
      clear HSet HBs p0 p1 p2 z0 z1 z2
      generalize (((w2.setCell ⟨w.heap.size, 0, none⟩ (.int .i64 0)).setCell ⟨w.heap.size, 1, none⟩ (.int .i64 0)).setCell ⟨w.heap.size, 2, none⟩ (.int .i64 0)).alloc (.cells #[.int .i64 sl, .int .i64 sn, .int .i64 so] 43) = W9 at *
      (try simp only [Exit.inBlock, Exit.then])
      refine bodyPost_ret (v := .tuple #[.agg #[.int .i64 0, .int .i64 0, .int .i64 0], .bool false]) (by simp [results, Tryz.results129, go_sem, r0, r1, r2]) rfl ?_
      exact ⟨by rw [← HR.out]; simp only [h3, if_true]; rfl, hb9⟩
    · skip
      have hset := (((HP2.out.set 0 (.int .i64 sl)).set 1 (.int .i64 sn)).set 2 (.int .i64 so)).alloc (.cells #[.int .i64 sl, .int .i64 sn, .int .i64 so] 43)
      have hbs := ((HB2.out.setCell (p := ⟨w.heap.size, 0, none⟩) (Nat.le_refl _) (.int .i64 sl)).setCell (p := ⟨w.heap.size, 1, none⟩) (Nat.le_refl _) (.int .i64 sn)).setCell (p := ⟨w.heap.size, 2, none⟩) (Nat.le_refl _) (.int .i64 so)
      have HBs := hid (hbs.alloc hbs.size (.cells #[.int .i64 sl, .int .i64 sn, .int .i64 so] 43))
      have HSet := hid hset
      clear hset hbs
      dsimp only [Option.getD, Option.isSome, Sq.zero]
      go_wp2
      have r0 := HSet.out.cell (k := 0) rfl
      have r1 := HSet.out.cell (k := 1) rfl
      have r2 := HSet.out.cell (k := 2) rfl
      have hb9 := HBs.out
      clear HSet HBs p0 p1 p2 z0 z1 z2
      generalize (((w2.setCell ⟨w.heap.size, 0, none⟩ (.int .i64 sl)).setCell ⟨w.heap.size, 1, none⟩ (.int .i64 sn)).setCell ⟨w.heap.size, 2, none⟩ (.int .i64 so)).alloc (.cells #[.int .i64 sl, .int .i64 sn, .int .i64 so] 43) = W9 at *
      (try simp only [Exit.inBlock, Exit.then])
      refine bodyPost_ret (v := .tuple #[.agg #[.int .i64 sl, .int .i64 sn, .int .i64 so], .bool true]) (by simp [results, Tryz.results129, go_sem, r0, r1, r2]) rfl ?_
      exact ⟨by rw [← HR.out, if_neg (by omega)]; rfl, hb9⟩
end Go.Proofs.YtlgablepckmogaaGreat
