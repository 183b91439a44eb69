/-
  The walks of layer 28, for the comparison with the reference: the reference's row of all matches. The walks of layer 28, for the comparison with the reference: the reference's best match.
-/
import Derived.Test.YtiagbejfghincaaGreatY24
import Derived.Test.YtiagbejfghincaaGreatY06
import Derived.Deep.RegionHeld3
namespace Go.Port
open Go.RowKit
/-- One element appended, in a region of open order. -/
theorem step_append1 {P : Program} {ops : Array Oper} {o : Oper} {a : Act} {W : World} {K : Act → World → Prop} {Q : Exit → Act → World → Prop} {E : Prop}
    (hg : o.guard = none) (s x : Operand) (t : TypeId) (ho : o.op = .call { callee := .builtin .append, args := #[s, x], argTypes := #[t, t] }) (e : TypeId) (z : Value) (sz bytes : Nat) (ht : P.underlying t = some (.slice e))
    (hi : (P.info? e).map (fun i => (i.zero, i.size, i.bytes)) = some (some z, sz, bytes)) (hz : z.cells.size = sz) (hsz : 0 < sz) (base : Nat) (v : Value) (n : Nat) (xs us : List Value)
    (hus : us.length = sz) (hu : ∀ u ∈ us, u.oneCell' = true) (hs : a.eval s = v) (hx : a.eval x = .slice (some ⟨W.heap.size, 0, none⟩) 1 1)
    (hown : W.ownsRow base e sz v n xs) (h63 : n + 1 ≤ maxLen) (hn : (n + 1) * bytes ≤ 140737488355328) (hbase : base ≤ W.heap.size)
    (h : ∀ v' w', w'.ownsRow base e sz v' (n + 1) (xs ++ us) → W.grownBy w' v.ownBlock → K (a.put o.dst v') w') :
    if Region.wanted o (yielded ops a.tmps) = true then Oper.wp P o a (W.alloc (.cells us.toArray e)) K Q else E := by
  have hw : Region.wanted o (yielded ops a.tmps) = true := by simp [Region.wanted, hg]
  rw [if_pos hw]
  obtain ⟨i0, hi0, hz0, hz1, hz2⟩ := info_parts hi
  refine wp_append_own (W.alloc (.cells us.toArray e)) s x t ho base e i0 z sz bytes ht hi0 hz0 hz1 hz2 hz hsz v n xs hs (hown.alloc _) ⟨W.heap.size, 0, none⟩ 1 1 us hx (by omega) (fun j u hj => ?_) hu h63 hn (by simp; omega) (fun v' w' h1 h2 _ => h v' w' h1 ?_)
  · rw [Go.WideShapes.add_plain, Nat.zero_add]
    exact (Blk.new W us e).cell hj
  · have h0 := World.grownBy_alloc W (.cells us.toArray e) v.ownBlock
    exact ⟨h2.os.trans h0.os, h2.tape.trans h0.tape, h2.output.trans h0.output, Nat.le_trans h0.size h2.size, fun k hk hne => (h2.block k (Nat.lt_of_lt_of_le hk h0.size) hne).trans (h0.block k hk hne)⟩
/-- A match as the reference keeps it: offset and length. -/
def sq2 (s : Sq) : List Value := [.int .i64 s.off, .int .i64 s.len]
theorem sq2_length (l : List Sq) : (l.flatMap sq2).length = l.length * 2 := by
  induction l with
  | nil => rfl
  | cons x r ih => simp only [List.flatMap_cons, List.length_append, ih, List.length_cons, sq2, List.length_nil]; omega
theorem sq2_get {l : List Sq} {k : Nat} {x : Sq} (h : l[k]? = some x) (j : Nat) (hj : j < 2) : (l.flatMap sq2)[k * 2 + j]? = (sq2 x)[j]? := by
  obtain ⟨h1, rfl⟩ := List.getElem?_eq_some_iff.1 h
  have e : l = l.take k ++ l[k] :: l.drop (k + 1) := by rw [← List.drop_eq_getElem_cons h1, List.take_append_drop]
  have hl : ((l.take k).flatMap sq2).length = k * 2 := by rw [sq2_length, List.length_take, Nat.min_eq_left (Nat.le_of_lt h1)]
  have e2 : l.flatMap sq2 = (l.take k).flatMap sq2 ++ (sq2 l[k] ++ (l.drop (k + 1)).flatMap sq2) := by
    conv => lhs; rw [e]
    rw [List.flatMap_append, List.flatMap_cons]
  rw [e2, List.getElem?_append_right (by omega), hl, Nat.add_sub_cancel_left, List.getElem?_append_left (by simp [sq2]; omega)]
end Go.Port
namespace Go.Proofs.YtiagbejfghincaaGreat
open Go.RowKit Go.Port
theorem Tryz.info_two : (Tryz.prog.info? 74).map (fun i => (i.zero, i.size, i.bytes)) = some (some (.agg #[.int .i64 0, .int .i64 0]), 2, 16) := by kernel_rfl
set_option maxRecDepth 100000 in
set_option maxHeartbeats 4000000 in
theorem rall_any (a a2 : Option Addr) (c c2 : Nat) (b : List UInt8) (pos most : Int) (frm : List Int) (w : World) (hb : b.length ≤ 1000000) (hf : frm.length ≤ 100000)
    (hc : ∀ j u, (b.map bv)[j]? = some u → ∃ bl off, a = some ⟨bl, off, none⟩ ∧ bl < w.heap.size ∧ w.cell? ⟨bl, off + j, none⟩ = some u)
    (hc2 : ∀ j u, (frm.map iv)[j]? = some u → ∃ bl off, a2 = some ⟨bl, off, none⟩ ∧ bl < w.heap.size ∧ w.cell? ⟨bl, off + j, none⟩ = some u) :
    Calls Tryz.prog 97 #[.slice a b.length c, .int .i64 pos, .int .i64 most, .slice a2 frm.length c2] w fun e w' => ∃ v, e = .returned v ∧ w'.ownsRow w.heap.size 74 2 v (matchesS b pos most frm).length ((matchesS b pos most frm).flatMap sq2) ∧ Below w.heap.size w w' := by
  have HC := hid (fun W (hW : Below w.heap.size w W) => at_same hc hW)
  have HC2 := hid hc2
  clear hc hc2
  go_enter Tryz.func97, Tryz.ntmps97
  go_wp2
  go_loopw [9, 10] (fun v i wr => ∃ k : Nat, k ≤ frm.length ∧ i = .int .i64 k ∧ wr.ownsRow w.heap.size 74 2 v (matchesS b pos most (frm.take k)).length ((matchesS b pos most (frm.take k)).flatMap sq2) ∧ Below w.heap.size w wr) (fun _ i _ => frm.length - (intOf i).toNat)
  case atStart => exact ⟨0, Nat.zero_le _, rfl, World.ownsRow_nil _ _ _ _, Below.refl _ _⟩
  case round =>
    obtain ⟨k, hk, rfl, hown, hBr⟩ := hrel
    by_cases hlt : k < frm.length
    · obtain ⟨x, hx⟩ : ∃ x, frm[k]? = some x := ⟨frm[k], by simp [hlt]⟩
      obtain ⟨bl2, off2, rfl, hb2, hcx⟩ := HC2.out k (iv x) (by rw [List.getElem?_map, hx]; rfl)
      have hcr : wr.cell? ⟨bl2, off2 + k, none⟩ = some (iv x) := (hBr.cell (p := ⟨bl2, off2 + k, none⟩) hb2).trans hcx
      have hst : matchesS b pos most (frm.take (k + 1)) = matchesS b pos most (frm.take k) ++ matchesS b pos most [x] := by
        obtain ⟨h1, h2⟩ := List.getElem?_eq_some_iff.1 hx
        rw [List.take_succ_eq_append_getElem h1, h2, matchesS_append]
      have HST := hid hst
      have HE := hid (rearlier_any a b.length c pos x wr)
      have HO := hid hown
      have HBr := hid hBr
      have hkI : (k : Int) < (frm.length : Int) := by omega
      unfold iv at hcx hcr
      clear hst hown hBr hx
      cases he : earlierB b.length pos x with
      | false =>
        rw [he] at HE
        have HM := hid (show matchesS b pos most [x] = [] from by unfold matchesS; rw [he]; rfl)
        clear he
        go_wp2_with fail
        refine HE.out.mono ?_
        rintro e w1 ⟨rfl, rfl⟩
        go_wp2
        go_roundw
        case rel =>
          refine ⟨k + 1, hlt, by go_num, ?_, HBr.out⟩
          rw [HST.out, HM.out, List.append_nil]
          exact HO.out
        case measure => simp [intOf]; omega
      | true =>
        rw [he] at HE
        have hM : matchesS b pos most [x] = [⟨0, (lenS b pos x most : Nat), pos - x⟩] := by unfold matchesS; rw [he]; rfl
        have hml := matchesS_length b pos most (frm.take k)
        obtain ⟨p, q, rfl, rfl, hqp, hpn⟩ := earlier_iff he
        rw [List.length_take] at hml
        obtain ⟨d, hd⟩ : ∃ d : Nat, (p : Int) - (q : Int) = (d : Int) := ⟨p - q, by omega⟩
        rw [hd] at hM
        have hw1 : IntKind.i64.wrap ((p : Int) - (q : Int)) = (d : Int) := by rw [IntKind.wrap_i64]; omega
        have HL := hid (fun W0 (hW0 : Below w.heap.size w W0) => ret_drew (rlen_any a c b (p : Int) (q : Int) most W0 hb (HC.out W0 hW0)))
        generalize lenS b (p : Int) (q : Int) most = X at hM HL
        replace HL := hid (HL.out wr.drew HBr.out.drew)
        have HM := hid hM
        clear he hM hd
        obtain ⟨av, cv, rfl⟩ := own_slice HO.out
        go_wp2_with fail
        refine HE.out.mono ?_
        rintro e w1 ⟨rfl, rfl⟩
        go_wp2_with fail
        refine wp_region_noPanic ?_
        refine wp_region_held_drew (S := fun W => Below w.heap.size w W) (by kernel_rfl) HBr.out.drew (fun hHeld => ?_)
        refine wpAnyH_take (i := 0) (v := .slice av (matchesS b p most (frm.take k)).length cv) (by simp only [List.getElem?_toArray, List.getElem?_cons_zero]; rfl) (by kernel_rfl) (by kernel_rfl) (by kernel_rfl) (fun _ _ _ h => h) (Or.inl ⟨by rfl, fun W hSw => ?_⟩) (by assumption) ?_
        · clear hSw
          go_simp
        simp only [Act.put, List.setIfInBounds_toArray, List.set_cons_zero, List.set_cons_succ]
        refine wpAnyH_take (i := 1) (v := .int .i64 (p : Int)) (by simp only [List.getElem?_toArray, List.getElem?_cons_zero, List.getElem?_cons_succ]; rfl) (by kernel_rfl) (by kernel_rfl) (by kernel_rfl) (fun _ _ _ h => h) (Or.inl ⟨by rfl, fun W hSw => ?_⟩) (by assumption) ?_
        · clear hSw
          go_simp
        simp only [Act.put, List.setIfInBounds_toArray, List.set_cons_zero, List.set_cons_succ]
        refine wpAnyH_take (i := 2) (v := .slice (some ⟨bl2, off2, none⟩) frm.length c2) (by simp only [List.getElem?_toArray, List.getElem?_cons_zero, List.getElem?_cons_succ]; rfl) (by kernel_rfl) (by kernel_rfl) (by kernel_rfl) (fun _ _ _ h => h) (Or.inl ⟨by rfl, fun W hSw => ?_⟩) (by assumption) ?_
        · clear hSw
          go_simp
        simp only [Act.put, List.setIfInBounds_toArray, List.set_cons_zero, List.set_cons_succ]
        refine wpAnyH_take (i := 3) (v := .int .i64 (k : Int)) (by simp only [List.getElem?_toArray, List.getElem?_cons_zero, List.getElem?_cons_succ]; rfl) (by kernel_rfl) (by kernel_rfl) (by kernel_rfl) (fun _ _ _ h => h) (Or.inl ⟨by rfl, fun W hSw => ?_⟩) (by assumption) ?_
        · clear hSw
          go_simp
        simp only [Act.put, List.setIfInBounds_toArray, List.set_cons_zero, List.set_cons_succ]
        refine wpAnyH_take (i := 4) (v := .pointer (some ⟨bl2, off2 + k, none⟩)) (by simp only [List.getElem?_toArray, List.getElem?_cons_zero, List.getElem?_cons_succ]; rfl) (by kernel_rfl) (by kernel_rfl) (by kernel_rfl) (fun _ _ _ h => h) (Or.inl ⟨by rfl, fun W hSw => ?_⟩) (by assumption) ?_
        · clear hSw
          go_simp
        simp only [Act.put, List.setIfInBounds_toArray, List.set_cons_zero, List.set_cons_succ]
        refine wpAnyH_take (i := 5) (v := .int .i64 (q : Int)) (by simp only [List.getElem?_toArray, List.getElem?_cons_zero, List.getElem?_cons_succ]; rfl) (by kernel_rfl) (by kernel_rfl) (by kernel_rfl) (fun _ _ _ h => h) (Or.inl ⟨by rfl, fun W hSw => ?_⟩) (by assumption) ?_
        · have hcw := (Below.cell (p := ⟨bl2, off2 + k, none⟩) hSw hb2).trans hcx
          go_simp
        simp only [Act.put, List.setIfInBounds_toArray, List.set_cons_zero, List.set_cons_succ]
        refine wpAnyH_take (i := 6) (v := .int .i64 (d : Int)) (by simp only [List.getElem?_toArray, List.getElem?_cons_zero, List.getElem?_cons_succ]; rfl) (by kernel_rfl) (by kernel_rfl) (by kernel_rfl) (fun _ _ _ h => h) (Or.inl ⟨by rfl, fun W hSw => ?_⟩) (by assumption) ?_
        · clear hSw
          go_simp
        simp only [Act.put, List.setIfInBounds_toArray, List.set_cons_zero, List.set_cons_succ]
        refine wpAnyH_take (i := 7) (v := .slice a b.length c) (by simp only [List.getElem?_toArray, List.getElem?_cons_zero, List.getElem?_cons_succ]; rfl) (by kernel_rfl) (by kernel_rfl) (by kernel_rfl) (fun _ _ _ h => h) (Or.inl ⟨by rfl, fun W hSw => ?_⟩) (by assumption) ?_
        · clear hSw
          go_simp
        simp only [Act.put, List.setIfInBounds_toArray, List.set_cons_zero, List.set_cons_succ]
        refine wpAnyH_take (i := 8) (v := .int .i64 (p : Int)) (by simp only [List.getElem?_toArray, List.getElem?_cons_zero, List.getElem?_cons_succ]; rfl) (by kernel_rfl) (by kernel_rfl) (by kernel_rfl) (fun _ _ _ h => h) (Or.inl ⟨by rfl, fun W hSw => ?_⟩) (by assumption) ?_
        · clear hSw
          go_simp
        simp only [Act.put, List.setIfInBounds_toArray, List.set_cons_zero, List.set_cons_succ]
        refine wpAnyH_take (i := 9) (v := .slice (some ⟨bl2, off2, none⟩) frm.length c2) (by simp only [List.getElem?_toArray, List.getElem?_cons_zero, List.getElem?_cons_succ]; rfl) (by kernel_rfl) (by kernel_rfl) (by kernel_rfl) (fun _ _ _ h => h) (Or.inl ⟨by rfl, fun W hSw => ?_⟩) (by assumption) ?_
        · clear hSw
          go_simp
        simp only [Act.put, List.setIfInBounds_toArray, List.set_cons_zero, List.set_cons_succ]
        refine wpAnyH_take (i := 10) (v := .int .i64 (k : Int)) (by simp only [List.getElem?_toArray, List.getElem?_cons_zero, List.getElem?_cons_succ]; rfl) (by kernel_rfl) (by kernel_rfl) (by kernel_rfl) (fun _ _ _ h => h) (Or.inl ⟨by rfl, fun W hSw => ?_⟩) (by assumption) ?_
        · clear hSw
          go_simp
        simp only [Act.put, List.setIfInBounds_toArray, List.set_cons_zero, List.set_cons_succ]
        refine wpAnyH_take (i := 11) (v := .pointer (some ⟨bl2, off2 + k, none⟩)) (by simp only [List.getElem?_toArray, List.getElem?_cons_zero, List.getElem?_cons_succ]; rfl) (by kernel_rfl) (by kernel_rfl) (by kernel_rfl) (fun _ _ _ h => h) (Or.inl ⟨by rfl, fun W hSw => ?_⟩) (by assumption) ?_
        · clear hSw
          go_simp
        simp only [Act.put, List.setIfInBounds_toArray, List.set_cons_zero, List.set_cons_succ]
        refine wpAnyH_take (i := 12) (v := .int .i64 (q : Int)) (by simp only [List.getElem?_toArray, List.getElem?_cons_zero, List.getElem?_cons_succ]; rfl) (by kernel_rfl) (by kernel_rfl) (by kernel_rfl) (fun _ _ _ h => h) (Or.inl ⟨by rfl, fun W hSw => ?_⟩) (by assumption) ?_
        · have hcw := (Below.cell (p := ⟨bl2, off2 + k, none⟩) hSw hb2).trans hcx
          go_simp
        simp only [Act.put, List.setIfInBounds_toArray, List.set_cons_zero, List.set_cons_succ]
        refine wpAnyH_take (i := 13) (v := .int .i64 most) (by simp only [List.getElem?_toArray, List.getElem?_cons_zero, List.getElem?_cons_succ]; rfl) (by kernel_rfl) (by kernel_rfl) (by kernel_rfl) (fun _ _ _ h => h) (Or.inl ⟨by rfl, fun W hSw => ?_⟩) (by assumption) ?_
        · clear hSw
          go_simp
        simp only [Act.put, List.setIfInBounds_toArray, List.set_cons_zero, List.set_cons_succ]
        refine wpAnyH_ready (rs := [14]) (by kernel_rfl) (by simp) ?_
        refine AllReadyH.cons (by simp only [List.getElem?_toArray, List.getElem?_cons_zero, List.getElem?_cons_succ]; rfl) (fun K hK => ?_) AllReadyH.nil
        rw [if_pos (by rfl)]
        go_simp
        go_at_call 127
        refine HL.out.mono ?_
        rintro e w5 ⟨rfl, hb5⟩
        dsimp only
        have hO5 := own_low (w := wr.drew) HO.out hb5
        have hB5 := HBr.out.drew.trans (hb5.mono HBr.out.size)
        refine hK.out _ _ hB5 (fun _ => ?_)
        clear hK K
        have hs5 := hB5.size
        refine wpAnyH_ready (rs := [15]) (by kernel_rfl) (by simp) ?_
        refine AllReadyH.cons (by simp only [List.getElem?_toArray, List.getElem?_cons_zero, List.getElem?_cons_succ]; rfl) (fun K hK => ?_) AllReadyH.nil
        rw [if_pos (by rfl)]
        go_simp
        refine hK.out _ _ hB5 (fun _ => ?_)
        clear hK K
        refine wpAnyH_ready (rs := [16]) (by kernel_rfl) (by simp) ?_
        refine AllReadyH.cons (by simp only [List.getElem?_toArray, List.getElem?_cons_zero, List.getElem?_cons_succ]; rfl) (fun K hK => ?_) AllReadyH.nil
        rw [if_pos (by rfl)]
        go_simp
        have hB6 := hB5.alloc hs5 (.cells #[.int .i64 (d : Int), .int .i64 (X : Nat)] 74)
        refine hK.out _ _ hB6 (fun _ => ?_)
        clear hK K
        refine wpAnyH_ready (rs := [17]) (by kernel_rfl) (by simp) ?_
        refine AllReadyH.cons (by simp only [List.getElem?_toArray, List.getElem?_cons_zero, List.getElem?_cons_succ]; rfl) (fun K hK => ?_) AllReadyH.nil
        refine step_append1 rfl _ _ 166 rfl 74 _ 2 16 Tryz.underlying166 Tryz.info_two rfl (by decide) w.heap.size _ _ _ [.int .i64 (d : Int), .int .i64 (X : Nat)] rfl ?hu rfl rfl (by exact hO5) ?h63 ?hn hs5 ?hk
        case hu => simp [Value.oneCell']
        case h63 => simp only [maxLen]; omega
        case hn => omega
        case hk =>
          intro v' w7 hown7 hg
          have hbg := below_grown hO5 hg hs5
          have hB7 := hB5.trans hbg
          refine hK.out _ _ hB7 (fun _ => ?_)
          clear hK K
          have HB7 := hid hB7
          have HO7 := hid hown7
          clear hB7 hown7 hbg hg hB6 hB5 hO5 hs5
          simp only [Act.put, List.setIfInBounds_toArray, List.set_cons_zero, List.set_cons_succ]
          refine wpAnyH_ready (rs := [18]) (by kernel_rfl) (by simp) ?_
          refine AllReadyH.cons (by simp only [List.getElem?_toArray, List.getElem?_cons_zero, List.getElem?_cons_succ]; rfl) (fun K hK => ?_) AllReadyH.nil
          rw [if_pos (by rfl)]
          go_simp
          refine hK.out _ _ HB7.out (fun _ => ?_)
          clear hK K
          refine wpAnyH_done (by kernel_rfl) ?_ _
          refine NoPanic.normal ?_
          go_wp2
          go_roundw
          case rel =>
            refine ⟨k + 1, hlt, by go_num, ?_, HB7.out⟩
            have h3 := HO7.out
            rw [HST.out, HM.out, List.length_append, List.flatMap_append]
            exact h3
          case measure => simp [intOf]; omega
    · obtain rfl : k = frm.length := by omega
      rw [List.take_of_length_le (Nat.le_refl _)] at hown
      have HO := hid hown
      have HBr := hid hBr
      clear hown hBr
      go_wp2
      go_ret
      exact ⟨_, rfl, HO.out, HBr.out⟩
end Go.Proofs.YtiagbejfghincaaGreat
namespace Go.Port
open Go.RowKit
end Go.Port
namespace Go.Proofs.YtiagbejfghincaaGreat
open Go.RowKit Go.Port
end Go.Proofs.YtiagbejfghincaaGreat
