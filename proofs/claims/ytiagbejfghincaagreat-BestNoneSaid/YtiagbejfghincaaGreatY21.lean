/-
  The walks of reference 32 (price), second part: Symbol, Lits, number, Count, Off, Len, Step.
-/
import Derived.Test.YtiagbejfghincaaGreatY20
namespace Go.Proofs.YtiagbejfghincaaGreat
open Go.RowKit Go.Port
/-- The reference's model. -/
structure RfAt (w : World) (A : Nat → Option Addr) (cp : Nat → Nat) (C : Nat → List Int) : Prop where
  four : FourAt w A cp C
  ok : ∀ k, k < 4 → HistOk k (C k)
theorem RfAt.low {w w' : World} {A : Nat → Option Addr} {cp : Nat → Nat} {C : Nat → List Int} (h : RfAt w A cp C) (hb : Below w.heap.size w w') : RfAt w' A cp C := ⟨h.four.low hb, h.ok⟩
theorem take_sum_next {l : List Int} {k : Nat} {x : Int} (hx : l[k]? = some x) : (l.take (k + 1)).sum = (l.take k).sum + x := by
  obtain ⟨hlt, h⟩ := List.getElem?_eq_some_iff.1 hx
  rw [List.take_succ_eq_append_getElem hlt, List.sum_append, h]
  simp
set_option maxRecDepth 100000 in
set_option maxHeartbeats 4000000 in
theorem rsym_any (A : Nat → Option Addr) (cp : Nat → Nat) (C : Nat → List Int) (w : World) (h : RfAt w A cp C) (i : Nat) (hi : i < 4) (s : Nat) (hs : s < 1000) :
    Calls Tryz.prog 71 #[fourV A cp C, .int .i64 (i : Int), .int .i64 (s : Int)] w (RetV w (.int .i64 (psym i (C i) s))) := by
  have hok := h.ok i hi
  have HH := hid h
  have HOk := hid hok
  have HI := hid hi
  have hiI : (i : Int) < 4 := by omega
  have HB := hid (show Blk (w.alloc (.cells #[.slice (A 0) (C 0).length (cp 0), .slice (A 1) (C 1).length (cp 1), .slice (A 2) (C 2).length (cp 2), .slice (A 3) (C 3).length (cp 3)] 32)) w.heap.size [.slice (A 0) (C 0).length (cp 0), .slice (A 1) (C 1).length (cp 1), .slice (A 2) (C 2).length (cp 2), .slice (A 3) (C 3).length (cp 3)] 32 from Blk.newAt rfl)
  have HBl := hid (below_new w (.cells #[.slice (A 0) (C 0).length (cp 0), .slice (A 1) (C 1).length (cp 1), .slice (A 2) (C 2).length (cp 2), .slice (A 3) (C 3).length (cp 3)] 32))
  have hcl := h.four.cap i hi
  have hcm := h.four.max i hi
  have hlc : ((C i).length : Int) ≤ (cp i : Int) := by omega
  have hlm : ((C i).length : Int) ≤ 256 := by have := hok.1; have := symN_le i; omega
  have HN := hid (symN_le i)
  have HS := hid (sum_hist hok)
  clear h hok hi hcl hcm
  unfold fourV
  go_enter Tryz.func71, Tryz.ntmps71
  go_wp2_with fail
  generalize w.alloc (.cells #[.slice (A 0) (C 0).length (cp 0), .slice (A 1) (C 1).length (cp 1), .slice (A 2) (C 2).length (cp 2), .slice (A 3) (C 3).length (cp 3)] 32) = w1 at *
  refine (rsymbols_any i HI.out w1).mono ?_
  rintro e w2 ⟨rfl, hb⟩
  have HB2 := hid (HB.out.below hb HB.out.lt)
  have HBl2 := hid (HBl.out.trans (hb.mono HBl.out.size))
  clear hb
  have c0 := HB2.out.cell (fourL_at A cp C i HI.out)
  have hn0 := HN.out.1
  have hn1 := HN.out.2
  go_wp2_with fail
  go_loop [7, 8, 9] (fun t o n => ∃ k : Nat, k ≤ (C i).length ∧ n = .int .i64 (k : Int) ∧ t = .int .i64 ((symN i : Int) + ((C i).take k).sum) ∧ o = .int .i64 (1 + (if s < k then (C i).getD s 0 else 0))) (fun _ _ n => (C i).length - (intOf n).toNat)
  case atStart => exact ⟨0, Nat.zero_le _, rfl, by simp, by simp⟩
  case round =>
    obtain ⟨k, hk, rfl, rfl, rfl⟩ := hrel
    by_cases hlt : k < (C i).length
    · obtain ⟨x, hx⟩ : ∃ x, (C i)[k]? = some x := ⟨(C i)[k], by simp [hlt]⟩
      obtain ⟨b, off, hA, hbl, hcell⟩ := (HH.out.low HBl2.out).four.cells i HI.out k (iv x) (by simp [hx])
      rw [hA] at c0
      unfold iv at hcell
      have hxc := HOk.out.2 x (List.mem_of_getElem? hx)
      have hsn := take_sum_next hx
      have hb1 := sum_cnt (l := (C i).take k) (fun y hy => HOk.out.2 y (List.mem_of_mem_take hy))
      have hlen : ((C i).take k).length ≤ 256 := by rw [List.length_take]; omega
      have hgd : (C i).getD k 0 = x := by rw [List.getD_eq_getElem?_getD, hx]; rfl
      have hsc := getD_cnt HOk.out.2 s
      have HSn := hid hsn
      have HGd := hid hgd
      have HLt := hid hlt
      have hltI : (k : Int) < ((C i).length : Int) := by omega
      unfold Cnt at hxc hsc
      have hob : 0 ≤ (if s < k then (C i).getD s 0 else 0) ∧ (if s < k then (C i).getD s 0 else 0) ≤ 2147483648 := by split <;> omega
      generalize ((C i).take k).sum = acc at *
      have HO := hid (show k = s → (if s < k + 1 then (C i).getD s 0 else 0) = (if s < k then (C i).getD s 0 else 0) + x from fun e => by
        subst e; rw [if_pos (by omega), if_neg (by omega), HGd.out]; omega)
      have HO2 := hid (show ¬ k = s → (if s < k + 1 then (C i).getD s 0 else 0) = (if s < k then (C i).getD s 0 else 0) from fun e => by
        by_cases h2 : s < k
        · rw [if_pos (by omega), if_pos h2]
        · rw [if_neg (by omega), if_neg h2])
      generalize (if s < k then (C i).getD s 0 else 0) = own at *
      obtain ⟨hx0, hx1⟩ := hxc
      obtain ⟨ho0, ho1⟩ := hob
      have hac0 : 0 ≤ acc := by omega
      have hac1 : acc ≤ 600000000000 := by omega
      have hw1 : IntKind.i64.wrap ((symN i : Int) + acc + x) = (symN i : Int) + acc + x := by rw [IntKind.wrap_i64]; omega
      have hw2 : IntKind.i64.wrap (1 + own + x) = 1 + own + x := by rw [IntKind.wrap_i64]; omega
      clear hx hsn hgd hb1 hlen hsc hlt hk
      by_cases hks : k = s
      · have HK := hid hks
        have t1 : ((k : Int) == (s : Int)) = true := by simp [hks]
        clear hks
        go_wp2_with fail
        go_round
        case rel => exact ⟨k + 1, by have := HLt.out; omega, by go_num, by rw [HSn.out]; congr 1; omega, by rw [HO.out HK.out]; congr 1; omega⟩
        case measure => have := HLt.out; simp [intOf]; omega
      · have HK := hid hks
        have t1 : ((k : Int) == (s : Int)) = false := by simp; omega
        clear hks
        go_wp2_with fail
        go_round
        case rel => exact ⟨k + 1, by have := HLt.out; omega, by go_num, by rw [HSn.out]; congr 1; omega, by rw [HO2.out HK.out]⟩
        case measure => have := HLt.out; simp [intOf]; omega
    · obtain rfl : k = (C i).length := by omega
      rw [List.take_of_length_le (Nat.le_refl _)]
      have hown : (if s < (C i).length then (C i).getD s 0 else 0) = (C i).getD s 0 := by
        split
        · rfl
        · rw [List.getD_eq_getElem?_getD, List.getElem?_eq_none (by omega)]; rfl
      rw [hown]
      have hsc := getD_cnt HOk.out.2 s
      unfold Cnt at hsc
      have hs0 := HS.out
      have HE := hid (show psym i (C i) s = lg ((symN i : Int) + (C i).sum) - lg (1 + (C i).getD s 0) from by unfold psym; rw [Int.add_comm (C i).sum, Int.add_comm ((C i).getD s 0)])
      have HL1 := hid (rlog_any ((symN i : Int) + (C i).sum) w2 (by omega) (by omega))
      have HL2 := hid (rlog_any (1 + (C i).getD s 0) w2 (by omega) (by omega))
      have hb1 := lg_bounds (x := (symN i : Int) + (C i).sum) (by omega) (by omega)
      have hb2 := lg_bounds (x := 1 + (C i).getD s 0) (by omega) (by omega)
      generalize lg ((symN i : Int) + (C i).sum) = LA at *
      generalize lg (1 + (C i).getD s 0) = LB at *
      generalize (symN i : Int) + (C i).sum = XA at *
      generalize 1 + (C i).getD s 0 = XB at *
      have hw : IntKind.i64.wrap (LA - LB) = LA - LB := by rw [IntKind.wrap_i64]; omega
      clear hown hsc hs0 hb1 hb2
      go_wp2_with fail
      refine HL1.out.mono ?_
      rintro e w' ⟨rfl, rfl⟩
      go_wp2_with fail
      refine HL2.out.mono ?_
      rintro e w' ⟨rfl, rfl⟩
      go_wp2
      go_ret
      exact ⟨ret_i HE.out.symm, HBl2.out⟩
set_option maxRecDepth 100000 in
set_option maxHeartbeats 4000000 in
theorem rlits_any (A : Nat → Option Addr) (cp : Nat → Nat) (C : Nat → List Int) (w : World) (h : RfAt w A cp C) (a : Option Addr) (c : Nat) (bs : List UInt8) (hn : bs.length ≤ 1000000) (hc : Cs w a (bs.map bv)) :
    Calls Tryz.prog 37 #[fourV A cp C, .slice a bs.length c] w (RetV w (.int .i64 (litsC C bs))) := by
  have HB0 := hid (show Blk (w.alloc (.cells #[.slice (A 0) (C 0).length (cp 0), .slice (A 1) (C 1).length (cp 1), .slice (A 2) (C 2).length (cp 2), .slice (A 3) (C 3).length (cp 3)] 32)) w.heap.size [.slice (A 0) (C 0).length (cp 0), .slice (A 1) (C 1).length (cp 1), .slice (A 2) (C 2).length (cp 2), .slice (A 3) (C 3).length (cp 3)] 32 from Blk.newAt rfl)
  have HBl0 := hid (below_new w (.cells #[.slice (A 0) (C 0).length (cp 0), .slice (A 1) (C 1).length (cp 1), .slice (A 2) (C 2).length (cp 2), .slice (A 3) (C 3).length (cp 3)] 32))
  have HH := hid h
  have HC := hid hc
  have HL := hid (fun l => lits_bounds (h.ok 0 (by decide)) l)
  have hnI : (bs.length : Int) ≤ 1000000 := by omega
  have HSy : Hid (∀ W, Below w.heap.size w W → ∀ s : Nat, s < 1000 → Calls Tryz.prog 71 #[.agg #[.slice (A 0) (C 0).length (cp 0), .slice (A 1) (C 1).length (cp 1), .slice (A 2) (C 2).length (cp 2), .slice (A 3) (C 3).length (cp 3)], .int .i64 0, .int .i64 (s : Int)] W (RetV W (.int .i64 (psym 0 (C 0) s)))) := hid (fun W hb s hs => rsym_any A cp C W (h.low hb) 0 (by decide) s hs)
  clear h hc
  unfold fourV
  go_enter Tryz.func37, Tryz.ntmps37
  go_wp2_with fail
  generalize w.alloc (.cells #[.slice (A 0) (C 0).length (cp 0), .slice (A 1) (C 1).length (cp 1), .slice (A 2) (C 2).length (cp 2), .slice (A 3) (C 3).length (cp 3)] 32) = w1 at *
  go_loopw [5, 6] (fun n i wr => ∃ k : Nat, k ≤ bs.length ∧ i = .int .i64 (k : Int) ∧ n = .int .i64 (litsC C (bs.take k)) ∧ Below w.heap.size w wr ∧ Blk wr w.heap.size [.slice (A 0) (C 0).length (cp 0), .slice (A 1) (C 1).length (cp 1), .slice (A 2) (C 2).length (cp 2), .slice (A 3) (C 3).length (cp 3)] 32) (fun _ i _ => bs.length - (intOf i).toNat)
  case atStart => exact ⟨0, Nat.zero_le _, rfl, by simp [litsC], HBl0.out, HB0.out⟩
  case round =>
    obtain ⟨k, hk, rfl, rfl, hbl, hb0⟩ := hrel
    have HBl := hid hbl
    have HB := hid hb0
    clear hbl hb0
    by_cases hlt : k < bs.length
    · obtain ⟨x, hx⟩ : ∃ x, bs[k]? = some x := ⟨bs[k], by simp [hlt]⟩
      obtain ⟨b, off, hA, hlb, hcell⟩ := HC.out k (bv x) (by simp [hx])
      subst hA
      have HCl := hid (And.intro hlb hcell)
      have hsn : litsC C (bs.take (k + 1)) = litsC C (bs.take k) + psym 0 (C 0) x.toNat := by
        have e : psym 0 (C 0) x.toNat = pcost 0 (C 0) x.toNat := by unfold pcost sbits; simp
        rw [e, ← lits_snoc, List.take_succ_eq_append_getElem hlt]
        congr 2
        have : bs[k] = x := by simpa [hlt] using hx
        rw [this]
      have HS := hid hsn
      have hb1 := HL.out (bs.take k)
      have hb2 := HL.out (bs.take (k + 1))
      have hlen1 : (bs.take k).length ≤ bs.length := by rw [List.length_take]; omega
      have hlen2 : (bs.take (k + 1)).length ≤ bs.length := by rw [List.length_take]; omega
      rw [hsn] at hb2
      have hx0 : 0 ≤ (x.toNat : Int) := by omega
      have hx255 : (x.toNat : Int) ≤ 255 := by have := x.toNat_lt; omega
      have hx1000 : x.toNat < 1000 := by have := x.toNat_lt; omega
      have HSx := hid (fun W hb => HSy.out W hb x.toNat hx1000)
      clear hx1000
      generalize litsC C (bs.take k) = acc at *
      generalize psym 0 (C 0) x.toNat = px at *
      have hw1 : IntKind.i64.wrap (acc + px) = acc + px := by rw [IntKind.wrap_i64]; omega
      have HLt := hid hlt
      have hltI : (k : Int) < (bs.length : Int) := by omega
      have hbq1 : -40000000000 ≤ acc + px := by omega
      have hbq2 : acc + px ≤ 40000000000 := by omega
      have hkc : 0 ≤ (k : Int) := by omega
      have hwx2 : IntKind.i64.wrap (x.toNat : Int) = (x.toNat : Int) := by clear hb1 hb2 hbq1 hbq2 hw1; rw [IntKind.wrap_i64]; omega
      clear hx hsn hb1 hb2 hlen1 hlen2 hlt hk hlb hcell
      go_wp2_with fail
      refine wp_region_noPanic ?_
      refine wp_region_held_drew (S := fun W' => Below wr.heap.size wr W') (by kernel_rfl) (Below.refl _ _).drew (fun hHeld => ?_)
      refine wpAnyH_take (i := 0) (v := .int .i64 acc) (by simp only [List.getElem?_toArray, List.getElem?_cons_zero]; rfl) (by kernel_rfl) (by kernel_rfl) (by kernel_rfl) (fun _ _ _ h => h) (Or.inl ⟨by rfl, fun W hSw => ?_⟩) (by assumption) ?_
      · clear hSw
        go_simp
      simp only [Act.put, List.setIfInBounds_toArray, List.set_cons_zero, List.set_cons_succ]
      refine wpAnyH_take (i := 1) (v := .agg #[.slice (A 0) (C 0).length (cp 0), .slice (A 1) (C 1).length (cp 1), .slice (A 2) (C 2).length (cp 2), .slice (A 3) (C 3).length (cp 3)]) (by simp only [List.getElem?_toArray, List.getElem?_cons_zero, List.getElem?_cons_succ]; rfl) (by kernel_rfl) (by kernel_rfl) (by kernel_rfl) (fun _ _ _ h => h) (Or.inl ⟨by rfl, fun W hSw => ?_⟩) (by assumption) ?_
      · have hcw0 := (hSw.cell (p := ⟨w.heap.size, 0, none⟩) HB.out.lt).trans (HB.out.cell (k := 0) rfl)
        have hcw1 := (hSw.cell (p := ⟨w.heap.size, 1, none⟩) HB.out.lt).trans (HB.out.cell (k := 1) rfl)
        have hcw2 := (hSw.cell (p := ⟨w.heap.size, 2, none⟩) HB.out.lt).trans (HB.out.cell (k := 2) rfl)
        have hcw3 := (hSw.cell (p := ⟨w.heap.size, 3, none⟩) HB.out.lt).trans (HB.out.cell (k := 3) rfl)
        go_simp
      simp only [Act.put, List.setIfInBounds_toArray, List.set_cons_zero, List.set_cons_succ]
      refine wpAnyH_take (i := 2) (v := .slice (some ⟨b, off, none⟩) bs.length c) (by simp only [List.getElem?_toArray, List.getElem?_cons_zero, List.getElem?_cons_succ]; rfl) (by kernel_rfl) (by kernel_rfl) (by kernel_rfl) (fun _ _ _ h => h) (Or.inl ⟨by rfl, fun W hSw => ?_⟩) (by assumption) ?_
      · clear hSw
        go_simp
      simp only [Act.put, List.setIfInBounds_toArray, List.set_cons_zero, List.set_cons_succ]
      refine wpAnyH_take (i := 3) (v := .int .i64 (k : Int)) (by simp only [List.getElem?_toArray, List.getElem?_cons_zero, List.getElem?_cons_succ]; rfl) (by kernel_rfl) (by kernel_rfl) (by kernel_rfl) (fun _ _ _ h => h) (Or.inl ⟨by rfl, fun W hSw => ?_⟩) (by assumption) ?_
      · clear hSw
        go_simp
      simp only [Act.put, List.setIfInBounds_toArray, List.set_cons_zero, List.set_cons_succ]
      refine wpAnyH_take (i := 4) (v := .pointer (some ⟨b, off + k, none⟩)) (by simp only [List.getElem?_toArray, List.getElem?_cons_zero, List.getElem?_cons_succ]; rfl) (by kernel_rfl) (by kernel_rfl) (by kernel_rfl) (fun _ _ _ h => h) (Or.inl ⟨by rfl, fun W hSw => ?_⟩) (by assumption) ?_
      · clear hSw
        go_simp
      simp only [Act.put, List.setIfInBounds_toArray, List.set_cons_zero, List.set_cons_succ]
      refine wpAnyH_take (i := 5) (v := .int .u8 (x.toNat : Int)) (by simp only [List.getElem?_toArray, List.getElem?_cons_zero, List.getElem?_cons_succ]; rfl) (by kernel_rfl) (by kernel_rfl) (by kernel_rfl) (fun _ _ _ h => h) (Or.inl ⟨by rfl, fun W hSw => ?_⟩) (by assumption) ?_
      · have hcw := ((HBl.out.trans (hSw.mono HBl.out.size)).cell (p := ⟨b, off + k, none⟩) HCl.out.1).trans HCl.out.2
        unfold bv at hcw
        go_simp
      simp only [Act.put, List.setIfInBounds_toArray, List.set_cons_zero, List.set_cons_succ]
      refine wpAnyH_take (i := 6) (v := .int .i64 (x.toNat : Int)) (by simp only [List.getElem?_toArray, List.getElem?_cons_zero, List.getElem?_cons_succ]; rfl) (by kernel_rfl) (by kernel_rfl) (by kernel_rfl) (fun _ _ _ h => h) (Or.inl ⟨by rfl, fun W hSw => ?_⟩) (by assumption) ?_
      · clear hSw
        go_simp
      simp only [Act.put, List.setIfInBounds_toArray, List.set_cons_zero, List.set_cons_succ]
      refine wpAnyH_ready (rs := [7]) (by kernel_rfl) (by simp) ?_
      refine AllReadyH.cons (by simp only [List.getElem?_toArray, List.getElem?_cons_zero, List.getElem?_cons_succ]; rfl) (fun K hK => ?_) AllReadyH.nil
      rw [if_pos (by rfl)]
      go_simp
      go_at_call 71
      refine (HSx.out _ (HBl.out.trans ((Below.refl _ _).drew.mono HBl.out.size))).mono ?_
      rintro e w4 ⟨rfl, hb4⟩
      have HB4 := hid ((show Below wr.heap.size wr wr.drew from (Below.refl _ _).drew).trans hb4)
      dsimp only
      refine hK.out _ _ HB4.out (fun _ => ?_)
      clear hK K hb4
      refine wpAnyH_take (i := 8) (v := .int .i64 (acc + px)) (by simp only [List.getElem?_toArray, List.getElem?_cons_zero, List.getElem?_cons_succ]; rfl) (by kernel_rfl) (by kernel_rfl) (by kernel_rfl) (fun _ _ _ h => h) (Or.inl ⟨by rfl, fun W hSw => ?_⟩) (by assumption) ?_
      · clear hSw
        go_simp
      simp only [Act.put, List.setIfInBounds_toArray, List.set_cons_zero, List.set_cons_succ]
      refine wpAnyH_take (i := 9) (v := .int .i64 (acc + px)) (by simp only [List.getElem?_toArray, List.getElem?_cons_zero, List.getElem?_cons_succ]; rfl) (by kernel_rfl) (by kernel_rfl) (by kernel_rfl) (fun _ _ _ h => h) (Or.inl ⟨by rfl, fun W hSw => ?_⟩) (by assumption) ?_
      · clear hSw
        go_simp
      simp only [Act.put, List.setIfInBounds_toArray, List.set_cons_zero, List.set_cons_succ]
      refine wpAnyH_done (by kernel_rfl) ?_ _
      refine NoPanic.normal ?_
      go_wp2_with fail
      go_roundw
      case rel => exact ⟨k + 1, by have := HLt.out; omega, by go_num, by rw [HS.out], HBl.out.trans (HB4.out.mono HBl.out.size), HB.out.below HB4.out HB.out.lt⟩
      case measure => have := HLt.out; simp [intOf]; omega
    · obtain rfl : k = bs.length := by omega
      go_wp2
      go_ret
      exact ⟨by simp, HBl.out⟩
/-- A number and an error. -/
def numV (o : Option Int) : Value := match o with
  | some x => .tuple #[.int .i64 x, .int .i64 0]
  | none => .tuple #[.int .i64 0, .int .i64 2]
set_option maxRecDepth 100000 in
set_option maxHeartbeats 2000000 in
theorem rnumber_any (A : Nat → Option Addr) (cp : Nat → Nat) (C : Nat → List Int) (w : World) (h : RfAt w A cp C) (i : Nat) (h1 : 1 ≤ i) (hi : i < 4) (n : Int) :
    Calls Tryz.prog 104 #[fourV A cp C, .int .i64 (i : Int), .int .i64 n] w (RetV w (numV (numC C i n))) := by
  have HB := hid (show Blk (w.alloc (.cells #[.slice (A 0) (C 0).length (cp 0), .slice (A 1) (C 1).length (cp 1), .slice (A 2) (C 2).length (cp 2), .slice (A 3) (C 3).length (cp 3)] 32)) w.heap.size [.slice (A 0) (C 0).length (cp 0), .slice (A 1) (C 1).length (cp 1), .slice (A 2) (C 2).length (cp 2), .slice (A 3) (C 3).length (cp 3)] 32 from Blk.newAt rfl)
  have HBl := hid (below_new w (.cells #[.slice (A 0) (C 0).length (cp 0), .slice (A 1) (C 1).length (cp 1), .slice (A 2) (C 2).length (cp 2), .slice (A 3) (C 3).length (cp 3)] 32))
  have t1 : ((i : Int) == 2) = decide (i = 2) := by
    by_cases e : i = 2
    · subst e; rfl
    · have : ¬ (i : Int) = 2 := by omega
      simp [e, this]
  have HOf := hid (fun W => rof_any (decide (i = 2)) n W)
  have hok := h.ok i hi
  have HSy := hid (fun (s : Nat) hs => fun W hb => rsym_any A cp C W (h.low hb) i hi s hs)
  have hsc := symN_codes i h1
  cases ho : codeS (decide (i = 2)) n with
  | some c =>
    have hcl := codeS_lt ho
    have hn : numC C i n = some (pcost i (C i) c) := by unfold numC; rw [ho]; rfl
    rw [hn]
    have HE := hid (show pcost i (C i) c = psym i (C i) c + 256 * (ebits (decide (i = 2)) c : Nat) from by unfold pcost sbits; rw [if_neg (by omega)])
    have hpb := pcost_bounds hok (s := c) (by rw [hsc]; exact hcl)
    have hbb := ebits_lt _ c hcl
    have HBi := hid (fun W => rbits_any (decide (i = 2)) c W hcl)
    have hc1000 : c < 1000 := by have := symN_le i; omega
    have HSc := hid (HSy.out c hc1000)
    have HPc := hid (show psym i (C i) c + 256 * (ebits (decide (i = 2)) c : Nat) = pcost i (C i) c from HE.out.symm)
    have hpe := HPc.out
    rw [ho] at HOf
    show Calls Tryz.prog _ _ w (RetV w (.tuple #[.int .i64 (pcost i (C i) c), .int .i64 0]))
    generalize pcost i (C i) c = pc at *
    generalize psym i (C i) c = ps at *
    generalize ebits (decide (i = 2)) c = eb at *
    generalize decide (i = 2) = off at *
    have hw1 : IntKind.i64.wrap (256 * (eb : Int)) = 256 * (eb : Int) := by rw [IntKind.wrap_i64]; omega
    have hw2 : IntKind.i64.wrap (ps + 256 * (eb : Int)) = ps + 256 * (eb : Int) := by rw [IntKind.wrap_i64]; omega
    have hebI : (eb : Int) < 44 := by omega
    have heb0 : 0 ≤ (eb : Int) := by omega
    have hp1 : -40000 ≤ ps := by omega
    have hp2 : ps ≤ 40000 := by omega
    have HIi := hid hi
    clear h ho hok hsc hcl hn hpb hbb hc1000 HSy HE hpe h1 hi
    unfold fourV at *
    go_enter Tryz.func104, Tryz.ntmps104
    go_wp2_with fail
    generalize w.alloc (.cells #[.slice (A 0) (C 0).length (cp 0), .slice (A 1) (C 1).length (cp 1), .slice (A 2) (C 2).length (cp 2), .slice (A 3) (C 3).length (cp 3)] 32) = w1 at *
    refine (HOf.out _).mono ?_
    rintro e w' ⟨⟨r, rfl⟩, rfl⟩
    have c0 := HB.out.cell (k := 0) rfl
    have c1 := HB.out.cell (k := 1) rfl
    have c2 := HB.out.cell (k := 2) rfl
    have c3 := HB.out.cell (k := 3) rfl
    go_wp2_with fail
    refine (HSc.out _ HBl.out).mono ?_
    rintro e w2 ⟨rfl, hb⟩
    have HB2 := hid (HBl.out.trans (hb.mono HBl.out.size))
    clear hb c0 c1 c2 c3
    go_wp2_with fail
    refine (HBi.out _).mono ?_
    rintro e w' ⟨rfl, rfl⟩
    go_wp2
    go_ret2
    refine ⟨?_, HB2.out⟩
    rw [← HPc.out]
    rfl
  | none =>
    have hn : numC C i n = none := by unfold numC; rw [ho]; rfl
    rw [hn]
    rw [ho] at HOf
    show Calls Tryz.prog _ _ w (RetV w (.tuple #[.int .i64 0, .int .i64 2]))
    generalize decide (i = 2) = off at *
    clear h ho hok hsc hn HSy h1 hi
    unfold fourV at *
    go_enter Tryz.func104, Tryz.ntmps104
    go_wp2_with fail
    generalize w.alloc (.cells #[.slice (A 0) (C 0).length (cp 0), .slice (A 1) (C 1).length (cp 1), .slice (A 2) (C 2).length (cp 2), .slice (A 3) (C 3).length (cp 3)] 32) = w1 at *
    refine (HOf.out _).mono ?_
    rintro e w' ⟨⟨r, rfl⟩, rfl⟩
    go_wp2
    go_ret2
    exact ⟨rfl, HBl.out⟩
set_option maxRecDepth 100000 in
theorem roff_any (A : Nat → Option Addr) (cp : Nat → Nat) (C : Nat → List Int) (w : World) (h : RfAt w A cp C) (n : Int) :
    Calls Tryz.prog 73 #[fourV A cp C, .int .i64 n] w (RetV w (numV (numC C 2 n))) := by
  have HB := hid (show Blk (w.alloc (.cells #[.slice (A 0) (C 0).length (cp 0), .slice (A 1) (C 1).length (cp 1), .slice (A 2) (C 2).length (cp 2), .slice (A 3) (C 3).length (cp 3)] 32)) w.heap.size [.slice (A 0) (C 0).length (cp 0), .slice (A 1) (C 1).length (cp 1), .slice (A 2) (C 2).length (cp 2), .slice (A 3) (C 3).length (cp 3)] 32 from Blk.newAt rfl)
  have HBl := hid (below_new w (.cells #[.slice (A 0) (C 0).length (cp 0), .slice (A 1) (C 1).length (cp 1), .slice (A 2) (C 2).length (cp 2), .slice (A 3) (C 3).length (cp 3)] 32))
  have HN : Hid (∀ W, Below w.heap.size w W → Calls Tryz.prog 104 #[.agg #[.slice (A 0) (C 0).length (cp 0), .slice (A 1) (C 1).length (cp 1), .slice (A 2) (C 2).length (cp 2), .slice (A 3) (C 3).length (cp 3)], .int .i64 2, .int .i64 n] W (RetV W (numV (numC C 2 n)))) := hid (fun W hb => rnumber_any A cp C W (h.low hb) 2 (by decide) (by decide) n)
  obtain ⟨x, y, hxy⟩ : ∃ x y, numV (numC C 2 n) = .tuple #[.int .i64 x, .int .i64 y] := by
    cases numC C 2 n <;> exact ⟨_, _, rfl⟩
  rw [hxy] at HN ⊢
  clear h hxy
  unfold fourV
  go_enter Tryz.func73, Tryz.ntmps73
  have c0 := HB.out.cell (k := 0) rfl
  have c1 := HB.out.cell (k := 1) rfl
  have c2 := HB.out.cell (k := 2) rfl
  have c3 := HB.out.cell (k := 3) rfl
  go_wp2_with fail
  generalize w.alloc (.cells #[.slice (A 0) (C 0).length (cp 0), .slice (A 1) (C 1).length (cp 1), .slice (A 2) (C 2).length (cp 2), .slice (A 3) (C 3).length (cp 3)] 32) = w1 at *
  refine (HN.out _ HBl.out).mono ?_
  rintro e w2 ⟨rfl, hb⟩
  have HB2 := hid (HBl.out.trans (hb.mono HBl.out.size))
  clear hb c0 c1 c2 c3
  go_wp2
  go_ret2
  exact ⟨rfl, HB2.out⟩
set_option maxRecDepth 100000 in
theorem rlen32_any (A : Nat → Option Addr) (cp : Nat → Nat) (C : Nat → List Int) (w : World) (h : RfAt w A cp C) (n : Int) (hn0 : -9223372036854775808 ≤ n) (hn1 : n ≤ 9223372036854775807) :
    Calls Tryz.prog 72 #[fourV A cp C, .int .i64 n] w (RetV w (numV (lenC C n))) := by
  have HB := hid (show Blk (w.alloc (.cells #[.slice (A 0) (C 0).length (cp 0), .slice (A 1) (C 1).length (cp 1), .slice (A 2) (C 2).length (cp 2), .slice (A 3) (C 3).length (cp 3)] 32)) w.heap.size [.slice (A 0) (C 0).length (cp 0), .slice (A 1) (C 1).length (cp 1), .slice (A 2) (C 2).length (cp 2), .slice (A 3) (C 3).length (cp 3)] 32 from Blk.newAt rfl)
  have HBl := hid (below_new w (.cells #[.slice (A 0) (C 0).length (cp 0), .slice (A 1) (C 1).length (cp 1), .slice (A 2) (C 2).length (cp 2), .slice (A 3) (C 3).length (cp 3)] 32))
  unfold lenC
  by_cases h3 : n < 3
  · rw [if_pos h3]
    show Calls Tryz.prog _ _ w (RetV w (.tuple #[.int .i64 0, .int .i64 2]))
    clear h
    unfold fourV
    go_enter Tryz.func72, Tryz.ntmps72
    go_wp2
    go_ret2
    exact ⟨rfl, HBl.out⟩
  rw [if_neg h3]
  have hw3 : IntKind.i64.wrap (n - 3) = n - 3 := by rw [IntKind.wrap_i64]; omega
  have HN : Hid (∀ W, Below w.heap.size w W → Calls Tryz.prog 104 #[.agg #[.slice (A 0) (C 0).length (cp 0), .slice (A 1) (C 1).length (cp 1), .slice (A 2) (C 2).length (cp 2), .slice (A 3) (C 3).length (cp 3)], .int .i64 3, .int .i64 (n - 3)] W (RetV W (numV (numC C 3 (n - 3))))) := hid (fun W hb => rnumber_any A cp C W (h.low hb) 3 (by decide) (by decide) (n - 3))
  obtain ⟨x, y, hxy⟩ : ∃ x y, numV (numC C 3 (n - 3)) = .tuple #[.int .i64 x, .int .i64 y] := by
    cases numC C 3 (n - 3) <;> exact ⟨_, _, rfl⟩
  rw [hxy] at HN ⊢
  clear h hxy
  unfold fourV
  go_enter Tryz.func72, Tryz.ntmps72
  have c0 := HB.out.cell (k := 0) rfl
  have c1 := HB.out.cell (k := 1) rfl
  have c2 := HB.out.cell (k := 2) rfl
  have c3 := HB.out.cell (k := 3) rfl
  go_wp2_with fail
  generalize w.alloc (.cells #[.slice (A 0) (C 0).length (cp 0), .slice (A 1) (C 1).length (cp 1), .slice (A 2) (C 2).length (cp 2), .slice (A 3) (C 3).length (cp 3)] 32) = w1 at *
  refine (HN.out _ HBl.out).mono ?_
  rintro e w2 ⟨rfl, hb⟩
  have HB2 := hid (HBl.out.trans (hb.mono HBl.out.size))
  clear hb c0 c1 c2 c3
  go_wp2
  go_ret2
  exact ⟨rfl, HB2.out⟩
set_option maxRecDepth 100000 in
set_option maxHeartbeats 2000000 in
theorem rstep_any (A : Nat → Option Addr) (cp : Nat → Nat) (C : Nat → List Int) (w : World) (h : RfAt w A cp C) (n off : Int) (hn0 : -9223372036854775808 ≤ n) (hn1 : n ≤ 9223372036854775807) :
    Calls Tryz.prog 38 #[fourV A cp C, .int .i64 n, .int .i64 off] w (RetV w (numV (stepC C n off))) := by
  have HB := hid (show Blk (w.alloc (.cells #[.slice (A 0) (C 0).length (cp 0), .slice (A 1) (C 1).length (cp 1), .slice (A 2) (C 2).length (cp 2), .slice (A 3) (C 3).length (cp 3)] 32)) w.heap.size [.slice (A 0) (C 0).length (cp 0), .slice (A 1) (C 1).length (cp 1), .slice (A 2) (C 2).length (cp 2), .slice (A 3) (C 3).length (cp 3)] 32 from Blk.newAt rfl)
  have HBl := hid (below_new w (.cells #[.slice (A 0) (C 0).length (cp 0), .slice (A 1) (C 1).length (cp 1), .slice (A 2) (C 2).length (cp 2), .slice (A 3) (C 3).length (cp 3)] 32))
  unfold stepC
  by_cases hf : off < 1 ∨ 134217728 < off
  · rw [if_pos hf]
    show Calls Tryz.prog _ _ w (RetV w (.tuple #[.int .i64 0, .int .i64 2]))
    clear h
    unfold fourV
    by_cases h1 : off < 1
    · have t1 : decide (off < 1) = true := decide_eq_true h1
      clear hf
      go_enter Tryz.func38, Tryz.ntmps38
      go_wp2
      go_ret2
      exact ⟨rfl, HBl.out⟩
    · have t1 : decide (off < 1) = false := decide_eq_false h1
      have t2 : decide (134217728 < off) = true := decide_eq_true (by omega)
      clear hf
      go_enter Tryz.func38, Tryz.ntmps38
      go_wp2
      go_ret2
      exact ⟨rfl, HBl.out⟩
  rw [if_neg hf]
  have t1 : decide (off < 1) = false := decide_eq_false (by omega)
  have t2 : decide (134217728 < off) = false := decide_eq_false (by omega)
  have hw3 : IntKind.i64.wrap (off + 3) = off + 3 := by rw [IntKind.wrap_i64]; omega
  obtain ⟨c, hc⟩ := codeS_far hf
  obtain ⟨x, hx⟩ : ∃ x, numC C 2 (off + 3) = some x := by
    unfold numC
    rw [show decide (2 = 2) = true from rfl, hc]
    exact ⟨_, rfl⟩
  have hxb := numC_bounds (by decide) (h.ok 2 (by decide)) hx
  have HO : Hid (∀ W, Below w.heap.size w W → Calls Tryz.prog 73 #[.agg #[.slice (A 0) (C 0).length (cp 0), .slice (A 1) (C 1).length (cp 1), .slice (A 2) (C 2).length (cp 2), .slice (A 3) (C 3).length (cp 3)], .int .i64 (off + 3)] W (RetV W (.tuple #[.int .i64 x, .int .i64 0]))) := hid (fun W hb => by have := roff_any A cp C W (h.low hb) (off + 3); rw [hx] at this; exact this)
  rw [hx]
  have hol : ∀ y, lenC C n = some y → -16384 ≤ y ∧ y ≤ 32768 := fun y hy => by
    unfold lenC at hy
    split at hy
    · cases hy
    · exact numC_bounds (by decide) (h.ok 3 (by decide)) hy
  have HL : Hid (∀ W, Below w.heap.size w W → Calls Tryz.prog 72 #[.agg #[.slice (A 0) (C 0).length (cp 0), .slice (A 1) (C 1).length (cp 1), .slice (A 2) (C 2).length (cp 2), .slice (A 3) (C 3).length (cp 3)], .int .i64 n] W (RetV W (numV (lenC C n)))) := hid (fun W hb => rlen32_any A cp C W (h.low hb) n hn0 hn1)
  cases hl : lenC C n with
  | some y =>
    obtain ⟨hy1, hy2⟩ := hol y hl
    obtain ⟨hx1, hx2⟩ := hxb
    rw [hl] at HL
    have HL : Hid (∀ W, Below w.heap.size w W → Calls Tryz.prog 72 #[.agg #[.slice (A 0) (C 0).length (cp 0), .slice (A 1) (C 1).length (cp 1), .slice (A 2) (C 2).length (cp 2), .slice (A 3) (C 3).length (cp 3)], .int .i64 n] W (RetV W (.tuple #[.int .i64 y, .int .i64 0]))) := HL
    have hw : IntKind.i64.wrap (y + x) = y + x := by rw [IntKind.wrap_i64]; omega
    show Calls Tryz.prog _ _ w (RetV w (.tuple #[.int .i64 (x + y), .int .i64 0]))
    rw [Int.add_comm x y]
    clear h hol hl hc hx hf
    unfold fourV
    go_enter Tryz.func38, Tryz.ntmps38
    have c0 := HB.out.cell (k := 0) rfl
    have c1 := HB.out.cell (k := 1) rfl
    have c2 := HB.out.cell (k := 2) rfl
    have c3 := HB.out.cell (k := 3) rfl
    go_wp2_with fail
    generalize w.alloc (.cells #[.slice (A 0) (C 0).length (cp 0), .slice (A 1) (C 1).length (cp 1), .slice (A 2) (C 2).length (cp 2), .slice (A 3) (C 3).length (cp 3)] 32) = w1 at *
    refine (HL.out _ HBl.out).mono ?_
    rintro e w2 ⟨rfl, hb⟩
    have HB2 := hid (HB.out.below hb HB.out.lt)
    have HBl2 := hid (HBl.out.trans (hb.mono HBl.out.size))
    clear hb c0 c1 c2 c3
    have c0 := HB2.out.cell (k := 0) rfl
    have c1 := HB2.out.cell (k := 1) rfl
    have c2 := HB2.out.cell (k := 2) rfl
    have c3 := HB2.out.cell (k := 3) rfl
    go_wp2_with fail
    refine (HO.out _ HBl2.out).mono ?_
    rintro e w3 ⟨rfl, hb⟩
    have HBl3 := hid (HBl2.out.trans (hb.mono HBl2.out.size))
    clear hb c0 c1 c2 c3
    go_wp2
    go_ret2
    exact ⟨rfl, HBl3.out⟩
  | none =>
    rw [hl] at HL
    have HL : Hid (∀ W, Below w.heap.size w W → Calls Tryz.prog 72 #[.agg #[.slice (A 0) (C 0).length (cp 0), .slice (A 1) (C 1).length (cp 1), .slice (A 2) (C 2).length (cp 2), .slice (A 3) (C 3).length (cp 3)], .int .i64 n] W (RetV W (.tuple #[.int .i64 0, .int .i64 2]))) := HL
    show Calls Tryz.prog _ _ w (RetV w (.tuple #[.int .i64 0, .int .i64 2]))
    clear h hol hl hc hx hf hxb
    unfold fourV
    go_enter Tryz.func38, Tryz.ntmps38
    have c0 := HB.out.cell (k := 0) rfl
    have c1 := HB.out.cell (k := 1) rfl
    have c2 := HB.out.cell (k := 2) rfl
    have c3 := HB.out.cell (k := 3) rfl
    go_wp2_with fail
    generalize w.alloc (.cells #[.slice (A 0) (C 0).length (cp 0), .slice (A 1) (C 1).length (cp 1), .slice (A 2) (C 2).length (cp 2), .slice (A 3) (C 3).length (cp 3)] 32) = w1 at *
    refine (HL.out _ HBl.out).mono ?_
    rintro e w2 ⟨rfl, hb⟩
    have HB2 := hid (HB.out.below hb HB.out.lt)
    have HBl2 := hid (HBl.out.trans (hb.mono HBl.out.size))
    clear hb c0 c1 c2 c3
    have c0 := HB2.out.cell (k := 0) rfl
    have c1 := HB2.out.cell (k := 1) rfl
    have c2 := HB2.out.cell (k := 2) rfl
    have c3 := HB2.out.cell (k := 3) rfl
    go_wp2_with fail
    refine (HO.out _ HBl2.out).mono ?_
    rintro e w3 ⟨rfl, hb⟩
    have HBl3 := hid (HBl2.out.trans (hb.mono HBl2.out.size))
    clear hb c0 c1 c2 c3
    go_wp2
    go_ret2
    exact ⟨rfl, HBl3.out⟩
end Go.Proofs.YtiagbejfghincaaGreat
