/-
  The walks of layer 32 (price): the reference's Plan.
-/
import Derived.Test.YtiagbejfghincaaGreatY22
import Derived.Test.YtiagbejfghincaaGreatY21
namespace Go.Proofs.YtiagbejfghincaaGreat
open Go.RowKit Go.Port
set_option maxRecDepth 100000 in
set_option maxHeartbeats 8000000 in
theorem rplan_bad (A : Nat → Option Addr) (cp : Nat → Nat) (C : Nat → List Int) (w : World) (h : RfAt w A cp C) (a : Option Addr) (cl : Nat) (l : List Sq) (ad : Option Addr) (c : Nat) (bs : List UInt8) (hpd : PdAt w a cl l ad c bs) (_ : ∀ s ∈ l, (-9223372036854775808 ≤ s.len ∧ s.len ≤ 9223372036854775807) ∧ (-9223372036854775808 ≤ s.off ∧ s.off ≤ 9223372036854775807)) (hp : plitsO bs l = false) :
    Calls Tryz.prog 19 #[fourV A cp C, .slice ad bs.length c, .slice a l.length cl] w (RetV w (.tuple #[.int .i64 0, .int .i64 15])) := by
  have HX := hid (Blk.new w [.slice (A 0) (C 0).length (cp 0), .slice (A 1) (C 1).length (cp 1), .slice (A 2) (C 2).length (cp 2), .slice (A 3) (C 3).length (cp 3)] 32)
  have HBx := hid (below_new w (.cells #[.slice (A 0) (C 0).length (cp 0), .slice (A 1) (C 1).length (cp 1), .slice (A 2) (C 2).length (cp 2), .slice (A 3) (C 3).length (cp 3)] 32))
  have HR := hid (h.low HBx.out)
  have HD := hid (hpd.low HBx.out)
  have hsm := hpd.small
  have hsmI : ¬ 131072 < (bs.length : Int) := by omega
  have HLi := hid (rlits22_bad l a cl ad c bs _ HD.out hp)
  unfold fourV
  clear h hpd hp hsm
  go_enter Tryz.func19, Tryz.ntmps19
  go_wp2_with fail
  generalize w.alloc (.cells #[.slice (A 0) (C 0).length (cp 0), .slice (A 1) (C 1).length (cp 1), .slice (A 2) (C 2).length (cp 2), .slice (A 3) (C 3).length (cp 3)] 32) = w1 at *
  refine HLi.out.mono ?_
  rintro e w2 ⟨rfl, hb⟩
  have HB := hid (HBx.out.trans (hb.mono HBx.out.size))
  clear hb
  go_wp2
  go_ret2
  exact ⟨rfl, HB.out⟩
set_option maxRecDepth 100000 in
set_option maxHeartbeats 8000000 in
theorem rplan_ok (A : Nat → Option Addr) (cp : Nat → Nat) (C : Nat → List Int) (w : World) (h : RfAt w A cp C) (a : Option Addr) (cl : Nat) (l : List Sq) (ad : Option Addr) (c : Nat) (bs : List UInt8) (hpd : PdAt w a cl l ad c bs) (hwf : ∀ s ∈ l, (-9223372036854775808 ≤ s.len ∧ s.len ≤ 9223372036854775807) ∧ (-9223372036854775808 ≤ s.off ∧ s.off ≤ 9223372036854775807)) (hp : plitsO bs l = true) (xr : Int) (hO : planO C bs l = some xr) :
    Calls Tryz.prog 19 #[fourV A cp C, .slice ad bs.length c, .slice a l.length cl] w (RetV w (.tuple #[.int .i64 xr, .int .i64 0])) := by
  have HX := hid (Blk.new w [.slice (A 0) (C 0).length (cp 0), .slice (A 1) (C 1).length (cp 1), .slice (A 2) (C 2).length (cp 2), .slice (A 3) (C 3).length (cp 3)] 32)
  have HBx := hid (below_new w (.cells #[.slice (A 0) (C 0).length (cp 0), .slice (A 1) (C 1).length (cp 1), .slice (A 2) (C 2).length (cp 2), .slice (A 3) (C 3).length (cp 3)] 32))
  have HR := hid (h.low HBx.out)
  have HD := hid (hpd.low HBx.out)
  have hsm := hpd.small
  have hsmI : ¬ 131072 < (bs.length : Int) := by omega
  obtain ⟨n, hn, hnb⟩ : ∃ n, planEnd 0 l = some n ∧ n ≤ (bs.length : Int) := by
    unfold plitsO at hp
    split at hp
    · rename_i n hn
      exact ⟨n, hn, by simpa using hp⟩
    · cases hp
  have hlen : (litsS bs l).length ≤ 131072 := by have := litsS_len hn hnb; omega
  have HLi := hid (rlits22_ok l a cl ad c bs _ HD.out n hn hnb)
  have HLt := hid (fun W a1 c1 (hW : RfAt W A cp C) (hc : Cs W a1 ((litsS bs l).map bv)) => rlits_any A cp C W hW a1 c1 (litsS bs l) (by omega) hc)
  have HSt := hid (fun W (hW : RfAt W A cp C) (s : Sq) (hs : s ∈ l) => rstep_any A cp C W hW s.len s.off (hwf s hs).1.1 (hwf s hs).1.2)
  unfold fourV at HLt HSt
  unfold fourV
  have hLB := lits_bounds (h.ok 0 (by decide)) (litsS bs l)
  have HLB := hid (show -16384 * (131072 : Int) ≤ litsC C (litsS bs l) ∧ litsC C (litsS bs l) ≤ 32768 * (131072 : Int) from by omega)
  have hlI : (l.length : Int) ≤ 40000 := by have := hpd.hl; omega
  have hlcI : (l.length : Int) ≤ (cl : Int) := by have := hpd.hlc; omega
  have HOk := hid h.ok
  have HO := hid hO
  clear h hpd hwf hp hsm hn hnb hlen hLB hO
  go_enter Tryz.func19, Tryz.ntmps19
  go_wp2_with fail
  generalize hw1 : w.alloc (.cells #[.slice (A 0) (C 0).length (cp 0), .slice (A 1) (C 1).length (cp 1), .slice (A 2) (C 2).length (cp 2), .slice (A 3) (C 3).length (cp 3)] 32) = w1 at *
  clear hw1
  refine HLi.out.mono ?_
  rintro e w2 ⟨v, rfl, hown, hb⟩
  obtain ⟨a1, c1, rfl⟩ := own_slice hown
  have hS := (Sl.of_owns hown).open
  obtain ⟨a9, c9, e9, _, _, _, hcs9⟩ := hS
  cases e9
  have HCs := hid hcs9
  have HX2 := hid (HX.out.below hb HX.out.lt)
  have HR2 := hid (HR.out.low hb)
  have HD2 := hid (HD.out.low hb)
  have HB2 := hid (HBx.out.trans (hb.mono HBx.out.size))
  clear hown hb hcs9 HX HR HD HBx HLi
  have c0 := HX2.out.cell (k := 0) rfl
  have c1 := HX2.out.cell (k := 1) rfl
  have c2 := HX2.out.cell (k := 2) rfl
  have c3 := HX2.out.cell (k := 3) rfl
  go_wp2_with fail
  clear c0 c1 c2 c3
  refine (HLt.out _ _ _ HR2.out HCs.out).mono ?_
  rintro e w3 ⟨rfl, hb⟩
  have HX3 := hid (HX2.out.below hb HX2.out.lt)
  have HR3 := hid (HR2.out.low hb)
  have HD3 := hid (HD2.out.low hb)
  have HB3 := hid (HB2.out.trans (hb.mono HB2.out.size))
  clear hb HX2 HR2 HD2 HB2 HCs HLt
  obtain ⟨z0, hz0⟩ : ∃ z, litsC C (litsS bs l) = z := ⟨_, rfl⟩
  unfold planO at HO
  rw [hz0] at HLB HO ⊢
  clear hz0
  go_wp2_with fail
  go_loopw [10, 11] (fun n i wr => ∃ (k : Nat) (z : Int), k ≤ l.length ∧ i = .int .i64 (k : Int) ∧ n = .int .i64 z ∧ Hid (stepsGo C z0 l = stepsGo C z (l.drop k) ∧ -16384 * (131072 : Int) - 65536 * (k : Int) ≤ z ∧ z ≤ 32768 * (131072 : Int) + 65536 * (k : Int)) ∧ Below w3.heap.size w3 wr) (fun _ i _ => l.length - (intOf i).toNat)
  case atStart => exact ⟨0, z0, Nat.zero_le _, rfl, rfl, hid ⟨rfl, by have := HLB.out; omega, by have := HLB.out; omega⟩, Below.refl _ _⟩
  case round =>
    obtain ⟨k, z, hk, rfl, rfl, HG, hb⟩ := hrel
    have HBr := hid hb
    have HBw := hid (HB3.out.trans (hb.mono HB3.out.size))
    by_cases hlt : k < l.length
    · obtain ⟨s, hsk⟩ : ∃ s, l[k]? = some s := ⟨l[k], by simp [hlt]⟩
      obtain ⟨b, o, rfl, hbl, y0, y1, y2⟩ := seq_cells (HD3.out.cells.low hb) hsk
      have HSk := hid hsk
      have hltI : (k : Int) < (l.length : Int) := by omega
      have HLk := hid hlt
      have HSs := hid (fun W hW => HSt.out W hW s (List.mem_of_getElem? hsk))
      have HXr := hid (HX3.out.below hb HX3.out.lt)
      have hz := HG.out.2
      have HBl := hid hbl
      have HY := hid (And.intro y1 y2)
      clear hsk hlt hk hb hbl y0 y1 y2
      cases hx : stepC C s.len s.off with
      | some x =>
        rw [hx] at HSs
        have HSs : Hid (∀ W, RfAt W A cp C → Calls Tryz.prog 38 #[.agg #[.slice (A 0) (C 0).length (cp 0), .slice (A 1) (C 1).length (cp 1), .slice (A 2) (C 2).length (cp 2), .slice (A 3) (C 3).length (cp 3)], .int .i64 s.len, .int .i64 s.off] W (RetV W (.tuple #[.int .i64 x, .int .i64 0]))) := HSs
        have HXb := hid (stepC_bounds HOk.out hx)
        have HNx := hid (stepsGo_some (z := z) HSk.out hx)
        clear hx
        obtain ⟨s1, s2, s3⟩ := s
        dsimp only at *
        go_upto_region 8 with fail
        have hb3 := Below.refl wr.heap.size wr
        refine wp_region_noPanic ?_
        refine wp_region_held_drew (S := fun W' => Below wr.heap.size wr W') (by kernel_rfl) hb3.drew (fun hHeld => ?_)
        refine wpAnyH_take (i := 0) (v := .agg #[.slice (A 0) (C 0).length (cp 0), .slice (A 1) (C 1).length (cp 1), .slice (A 2) (C 2).length (cp 2), .slice (A 3) (C 3).length (cp 3)]) (by simp only [List.getElem?_toArray, List.getElem?_cons_zero]; rfl) (by kernel_rfl) (by kernel_rfl) (by kernel_rfl) (fun _ _ _ h => h) (Or.inl ⟨by rfl, fun W hSw => ?_⟩) (by assumption) ?_
        · have hcw0 := (hSw.cell (p := ⟨w.heap.size, 0, none⟩) HXr.out.lt).trans (HXr.out.cell (k := 0) rfl)
          have hcw1 := (hSw.cell (p := ⟨w.heap.size, 1, none⟩) HXr.out.lt).trans (HXr.out.cell (k := 1) rfl)
          have hcw2 := (hSw.cell (p := ⟨w.heap.size, 2, none⟩) HXr.out.lt).trans (HXr.out.cell (k := 2) rfl)
          have hcw3 := (hSw.cell (p := ⟨w.heap.size, 3, none⟩) HXr.out.lt).trans (HXr.out.cell (k := 3) rfl)
          go_simp
        simp only [Act.put, List.setIfInBounds_toArray, List.set_cons_zero, List.set_cons_succ]
        refine wpAnyH_take (i := 1) (v := .slice (some ⟨b, o, none⟩) l.length cl) (by simp only [List.getElem?_toArray, List.getElem?_cons_zero, List.getElem?_cons_succ]; rfl) (by kernel_rfl) (by kernel_rfl) (by kernel_rfl) (fun _ _ _ h => h) (Or.inl ⟨by rfl, fun W hSw => ?_⟩) (by assumption) ?_
        · clear hSw
          go_simp
        simp only [Act.put, List.setIfInBounds_toArray, List.set_cons_zero, List.set_cons_succ]
        refine wpAnyH_take (i := 2) (v := .int .i64 (k : Int)) (by simp only [List.getElem?_toArray, List.getElem?_cons_zero, List.getElem?_cons_succ]; rfl) (by kernel_rfl) (by kernel_rfl) (by kernel_rfl) (fun _ _ _ h => h) (Or.inl ⟨by rfl, fun W hSw => ?_⟩) (by assumption) ?_
        · clear hSw
          go_simp
        simp only [Act.put, List.setIfInBounds_toArray, List.set_cons_zero, List.set_cons_succ]
        refine wpAnyH_take (i := 3) (v := .pointer (some ⟨b, o + k * 3, none⟩)) (by simp only [List.getElem?_toArray, List.getElem?_cons_zero, List.getElem?_cons_succ]; rfl) (by kernel_rfl) (by kernel_rfl) (by kernel_rfl) (fun _ _ _ h => h) (Or.inl ⟨by rfl, fun W hSw => ?_⟩) (by assumption) ?_
        · clear hSw
          go_simp
        simp only [Act.put, List.setIfInBounds_toArray, List.set_cons_zero, List.set_cons_succ]
        refine wpAnyH_take (i := 4) (v := .pointer (some ⟨b, o + k * 3 + 1, none⟩)) (by simp only [List.getElem?_toArray, List.getElem?_cons_zero, List.getElem?_cons_succ]; rfl) (by kernel_rfl) (by kernel_rfl) (by kernel_rfl) (fun _ _ _ h => h) (Or.inl ⟨by rfl, fun W hSw => ?_⟩) (by assumption) ?_
        · clear hSw
          go_simp
        simp only [Act.put, List.setIfInBounds_toArray, List.set_cons_zero, List.set_cons_succ]
        refine wpAnyH_take (i := 5) (v := .int .i64 s2) (by simp only [List.getElem?_toArray, List.getElem?_cons_zero, List.getElem?_cons_succ]; rfl) (by kernel_rfl) (by kernel_rfl) (by kernel_rfl) (fun _ _ _ h => h) (Or.inl ⟨by rfl, fun W hSw => ?_⟩) (by assumption) ?_
        · have hcw := (hSw.cell (p := ⟨b, o + k * 3 + 1, none⟩) HBl.out).trans HY.out.1
          go_simp
        simp only [Act.put, List.setIfInBounds_toArray, List.set_cons_zero, List.set_cons_succ]
        refine wpAnyH_take (i := 6) (v := .slice (some ⟨b, o, none⟩) l.length cl) (by simp only [List.getElem?_toArray, List.getElem?_cons_zero, List.getElem?_cons_succ]; rfl) (by kernel_rfl) (by kernel_rfl) (by kernel_rfl) (fun _ _ _ h => h) (Or.inl ⟨by rfl, fun W hSw => ?_⟩) (by assumption) ?_
        · clear hSw
          go_simp
        simp only [Act.put, List.setIfInBounds_toArray, List.set_cons_zero, List.set_cons_succ]
        refine wpAnyH_take (i := 7) (v := .int .i64 (k : Int)) (by simp only [List.getElem?_toArray, List.getElem?_cons_zero, List.getElem?_cons_succ]; rfl) (by kernel_rfl) (by kernel_rfl) (by kernel_rfl) (fun _ _ _ h => h) (Or.inl ⟨by rfl, fun W hSw => ?_⟩) (by assumption) ?_
        · clear hSw
          go_simp
        simp only [Act.put, List.setIfInBounds_toArray, List.set_cons_zero, List.set_cons_succ]
        refine wpAnyH_take (i := 8) (v := .pointer (some ⟨b, o + k * 3, none⟩)) (by simp only [List.getElem?_toArray, List.getElem?_cons_zero, List.getElem?_cons_succ]; rfl) (by kernel_rfl) (by kernel_rfl) (by kernel_rfl) (fun _ _ _ h => h) (Or.inl ⟨by rfl, fun W hSw => ?_⟩) (by assumption) ?_
        · clear hSw
          go_simp
        simp only [Act.put, List.setIfInBounds_toArray, List.set_cons_zero, List.set_cons_succ]
        refine wpAnyH_take (i := 9) (v := .pointer (some ⟨b, o + k * 3 + 2, none⟩)) (by simp only [List.getElem?_toArray, List.getElem?_cons_zero, List.getElem?_cons_succ]; rfl) (by kernel_rfl) (by kernel_rfl) (by kernel_rfl) (fun _ _ _ h => h) (Or.inl ⟨by rfl, fun W hSw => ?_⟩) (by assumption) ?_
        · clear hSw
          go_simp
        simp only [Act.put, List.setIfInBounds_toArray, List.set_cons_zero, List.set_cons_succ]
        refine wpAnyH_take (i := 10) (v := .int .i64 s3) (by simp only [List.getElem?_toArray, List.getElem?_cons_zero, List.getElem?_cons_succ]; rfl) (by kernel_rfl) (by kernel_rfl) (by kernel_rfl) (fun _ _ _ h => h) (Or.inl ⟨by rfl, fun W hSw => ?_⟩) (by assumption) ?_
        · have hcw := (hSw.cell (p := ⟨b, o + k * 3 + 2, none⟩) HBl.out).trans HY.out.2
          go_simp
        simp only [Act.put, List.setIfInBounds_toArray, List.set_cons_zero, List.set_cons_succ]
        refine wpAnyH_ready (rs := [11]) (by kernel_rfl) (by simp) ?_
        refine AllReadyH.cons (by simp only [List.getElem?_toArray, List.getElem?_cons_zero, List.getElem?_cons_succ]; rfl) (fun K hK => ?_) AllReadyH.nil
        rw [if_pos (by rfl)]
        go_simp
        go_at_call 38
        refine (HSs.out _ ((HR3.out.low HBr.out).low hb3.drew)).mono ?_
        rintro e w5 ⟨rfl, hb⟩
        have hb5 := hb3.drew.trans (hb.mono hb3.drew.size)
        dsimp only
        refine hK.out _ _ hb5 (fun _ => ?_)
        clear hK K hb
        refine wpAnyH_take (i := 12) (v := .tuple #[.int .i64 x, .int .i64 0]) (by simp only [List.getElem?_toArray, List.getElem?_cons_zero, List.getElem?_cons_succ]; rfl) (by kernel_rfl) (by kernel_rfl) (by kernel_rfl) (fun _ _ _ h => h) (Or.inl ⟨by rfl, fun W hSw => ?_⟩) (by assumption) ?_
        · clear hSw
          go_simp
        simp only [Act.put, List.setIfInBounds_toArray, List.set_cons_zero, List.set_cons_succ]
        refine wpAnyH_take (i := 13) (v := .int .i64 x) (by simp only [List.getElem?_toArray, List.getElem?_cons_zero, List.getElem?_cons_succ]; rfl) (by kernel_rfl) (by kernel_rfl) (by kernel_rfl) (fun _ _ _ h => h) (Or.inl ⟨by rfl, fun W hSw => ?_⟩) (by assumption) ?_
        · clear hSw
          go_simp
        simp only [Act.put, List.setIfInBounds_toArray, List.set_cons_zero, List.set_cons_succ]
        refine wpAnyH_take (i := 14) (v := .int .i64 0) (by simp only [List.getElem?_toArray, List.getElem?_cons_zero, List.getElem?_cons_succ]; rfl) (by kernel_rfl) (by kernel_rfl) (by kernel_rfl) (fun _ _ _ h => h) (Or.inl ⟨by rfl, fun W hSw => ?_⟩) (by assumption) ?_
        · clear hSw
          go_simp
        simp only [Act.put, List.setIfInBounds_toArray, List.set_cons_zero, List.set_cons_succ]
        refine wpAnyH_ready (rs := [15]) (by kernel_rfl) (by simp) ?_
        refine AllReadyH.cons (by simp only [List.getElem?_toArray, List.getElem?_cons_zero, List.getElem?_cons_succ]; rfl) (fun K hK => ?_) AllReadyH.nil
        rw [if_pos (by rfl)]
        go_simp
        refine hK.out _ _ hb5 (fun _ => ?_)
        clear hK K
        refine wpAnyH_ready (rs := [16]) (by kernel_rfl) (by simp) ?_
        refine AllReadyH.cons (by simp only [List.getElem?_toArray, List.getElem?_cons_zero, List.getElem?_cons_succ]; rfl) (fun K hK => ?_) AllReadyH.nil
        rw [if_pos (by rfl)]
        go_simp
        refine hK.out _ _ hb5 (fun _ => ?_)
        clear hK K
        refine wpAnyH_done (by kernel_rfl) ?_ _
        refine NoPanic.normal ?_
        have HB5 := hid (HBr.out.trans (hb5.mono HBr.out.size))
        have HB6 := hid (HBw.out.trans (hb5.mono (Nat.le_trans HB3.out.size HBr.out.size)))
        clear hb3 hb5 hHeld
        have hw1 : IntKind.i64.wrap (z + x) = z + x := by have := HXb.out; rw [IntKind.wrap_i64]; have := HLk.out; omega
        go_wp2
        go_roundw
        case rel => exact ⟨k + 1, z + x, HLk.out, by go_num, rfl, hid ⟨by rw [HG.out.1, HNx.out], by have := HXb.out; have := HG.out.2; omega, by have := HXb.out; have := HG.out.2; omega⟩, HB5.out⟩
        case measure => have := HLk.out; simp [intOf]; omega
      | none =>
        have hq := stepsGo_none (z := z) HSk.out hx
        rw [← HG.out.1, HO.out] at hq
        cases hq
    · obtain rfl : k = l.length := by omega
      have hq := HG.out.1
      rw [HO.out, List.drop_eq_nil_of_le (Nat.le_refl _)] at hq
      have hq : some xr = some z := hq
      cases hq
      clear hk hb
      go_wp2
      go_ret2
      exact ⟨rfl, HBw.out⟩
set_option maxRecDepth 100000 in
set_option maxHeartbeats 8000000 in
theorem rplan_none (A : Nat → Option Addr) (cp : Nat → Nat) (C : Nat → List Int) (w : World) (h : RfAt w A cp C) (a : Option Addr) (cl : Nat) (l : List Sq) (ad : Option Addr) (c : Nat) (bs : List UInt8) (hpd : PdAt w a cl l ad c bs) (hwf : ∀ s ∈ l, (-9223372036854775808 ≤ s.len ∧ s.len ≤ 9223372036854775807) ∧ (-9223372036854775808 ≤ s.off ∧ s.off ≤ 9223372036854775807)) (hp : plitsO bs l = true) (hO : planO C bs l = none) :
    Calls Tryz.prog 19 #[fourV A cp C, .slice ad bs.length c, .slice a l.length cl] w (RetV w (.tuple #[.int .i64 0, .int .i64 2])) := by
  have HX := hid (Blk.new w [.slice (A 0) (C 0).length (cp 0), .slice (A 1) (C 1).length (cp 1), .slice (A 2) (C 2).length (cp 2), .slice (A 3) (C 3).length (cp 3)] 32)
  have HBx := hid (below_new w (.cells #[.slice (A 0) (C 0).length (cp 0), .slice (A 1) (C 1).length (cp 1), .slice (A 2) (C 2).length (cp 2), .slice (A 3) (C 3).length (cp 3)] 32))
  have HR := hid (h.low HBx.out)
  have HD := hid (hpd.low HBx.out)
  have hsm := hpd.small
  have hsmI : ¬ 131072 < (bs.length : Int) := by omega
  obtain ⟨n, hn, hnb⟩ : ∃ n, planEnd 0 l = some n ∧ n ≤ (bs.length : Int) := by
    unfold plitsO at hp
    split at hp
    · rename_i n hn
      exact ⟨n, hn, by simpa using hp⟩
    · cases hp
  have hlen : (litsS bs l).length ≤ 131072 := by have := litsS_len hn hnb; omega
  have HLi := hid (rlits22_ok l a cl ad c bs _ HD.out n hn hnb)
  have HLt := hid (fun W a1 c1 (hW : RfAt W A cp C) (hc : Cs W a1 ((litsS bs l).map bv)) => rlits_any A cp C W hW a1 c1 (litsS bs l) (by omega) hc)
  have HSt := hid (fun W (hW : RfAt W A cp C) (s : Sq) (hs : s ∈ l) => rstep_any A cp C W hW s.len s.off (hwf s hs).1.1 (hwf s hs).1.2)
  unfold fourV at HLt HSt
  unfold fourV
  have hLB := lits_bounds (h.ok 0 (by decide)) (litsS bs l)
  have HLB := hid (show -16384 * (131072 : Int) ≤ litsC C (litsS bs l) ∧ litsC C (litsS bs l) ≤ 32768 * (131072 : Int) from by omega)
  have hlI : (l.length : Int) ≤ 40000 := by have := hpd.hl; omega
  have hlcI : (l.length : Int) ≤ (cl : Int) := by have := hpd.hlc; omega
  have HOk := hid h.ok
  have HO := hid hO
  clear h hpd hwf hp hsm hn hnb hlen hLB hO
  go_enter Tryz.func19, Tryz.ntmps19
  go_wp2_with fail
  generalize hw1 : w.alloc (.cells #[.slice (A 0) (C 0).length (cp 0), .slice (A 1) (C 1).length (cp 1), .slice (A 2) (C 2).length (cp 2), .slice (A 3) (C 3).length (cp 3)] 32) = w1 at *
  clear hw1
  refine HLi.out.mono ?_
  rintro e w2 ⟨v, rfl, hown, hb⟩
  obtain ⟨a1, c1, rfl⟩ := own_slice hown
  have hS := (Sl.of_owns hown).open
  obtain ⟨a9, c9, e9, _, _, _, hcs9⟩ := hS
  cases e9
  have HCs := hid hcs9
  have HX2 := hid (HX.out.below hb HX.out.lt)
  have HR2 := hid (HR.out.low hb)
  have HD2 := hid (HD.out.low hb)
  have HB2 := hid (HBx.out.trans (hb.mono HBx.out.size))
  clear hown hb hcs9 HX HR HD HBx HLi
  have c0 := HX2.out.cell (k := 0) rfl
  have c1 := HX2.out.cell (k := 1) rfl
  have c2 := HX2.out.cell (k := 2) rfl
  have c3 := HX2.out.cell (k := 3) rfl
  go_wp2_with fail
  clear c0 c1 c2 c3
  refine (HLt.out _ _ _ HR2.out HCs.out).mono ?_
  rintro e w3 ⟨rfl, hb⟩
  have HX3 := hid (HX2.out.below hb HX2.out.lt)
  have HR3 := hid (HR2.out.low hb)
  have HD3 := hid (HD2.out.low hb)
  have HB3 := hid (HB2.out.trans (hb.mono HB2.out.size))
  clear hb HX2 HR2 HD2 HB2 HCs HLt
  obtain ⟨z0, hz0⟩ : ∃ z, litsC C (litsS bs l) = z := ⟨_, rfl⟩
  unfold planO at HO
  rw [hz0] at HLB HO ⊢
  clear hz0
  go_wp2_with fail
  go_loopw [10, 11] (fun n i wr => ∃ (k : Nat) (z : Int), k ≤ l.length ∧ i = .int .i64 (k : Int) ∧ n = .int .i64 z ∧ Hid (stepsGo C z0 l = stepsGo C z (l.drop k) ∧ -16384 * (131072 : Int) - 65536 * (k : Int) ≤ z ∧ z ≤ 32768 * (131072 : Int) + 65536 * (k : Int)) ∧ Below w3.heap.size w3 wr) (fun _ i _ => l.length - (intOf i).toNat)
  case atStart => exact ⟨0, z0, Nat.zero_le _, rfl, rfl, hid ⟨rfl, by have := HLB.out; omega, by have := HLB.out; omega⟩, Below.refl _ _⟩
  case round =>
    obtain ⟨k, z, hk, rfl, rfl, HG, hb⟩ := hrel
    have HBr := hid hb
    have HBw := hid (HB3.out.trans (hb.mono HB3.out.size))
    by_cases hlt : k < l.length
    · obtain ⟨s, hsk⟩ : ∃ s, l[k]? = some s := ⟨l[k], by simp [hlt]⟩
      obtain ⟨b, o, rfl, hbl, y0, y1, y2⟩ := seq_cells (HD3.out.cells.low hb) hsk
      have HSk := hid hsk
      have hltI : (k : Int) < (l.length : Int) := by omega
      have HLk := hid hlt
      have HSs := hid (fun W hW => HSt.out W hW s (List.mem_of_getElem? hsk))
      have HXr := hid (HX3.out.below hb HX3.out.lt)
      have hz := HG.out.2
      have HBl := hid hbl
      have HY := hid (And.intro y1 y2)
      clear hsk hlt hk hb hbl y0 y1 y2
      cases hx : stepC C s.len s.off with
      | some x =>
        rw [hx] at HSs
        have HSs : Hid (∀ W, RfAt W A cp C → Calls Tryz.prog 38 #[.agg #[.slice (A 0) (C 0).length (cp 0), .slice (A 1) (C 1).length (cp 1), .slice (A 2) (C 2).length (cp 2), .slice (A 3) (C 3).length (cp 3)], .int .i64 s.len, .int .i64 s.off] W (RetV W (.tuple #[.int .i64 x, .int .i64 0]))) := HSs
        have HXb := hid (stepC_bounds HOk.out hx)
        have HNx := hid (stepsGo_some (z := z) HSk.out hx)
        clear hx
        obtain ⟨s1, s2, s3⟩ := s
        dsimp only at *
        go_upto_region 8 with fail
        have hb3 := Below.refl wr.heap.size wr
        refine wp_region_noPanic ?_
        refine wp_region_held_drew (S := fun W' => Below wr.heap.size wr W') (by kernel_rfl) hb3.drew (fun hHeld => ?_)
        refine wpAnyH_take (i := 0) (v := .agg #[.slice (A 0) (C 0).length (cp 0), .slice (A 1) (C 1).length (cp 1), .slice (A 2) (C 2).length (cp 2), .slice (A 3) (C 3).length (cp 3)]) (by simp only [List.getElem?_toArray, List.getElem?_cons_zero]; rfl) (by kernel_rfl) (by kernel_rfl) (by kernel_rfl) (fun _ _ _ h => h) (Or.inl ⟨by rfl, fun W hSw => ?_⟩) (by assumption) ?_
        · have hcw0 := (hSw.cell (p := ⟨w.heap.size, 0, none⟩) HXr.out.lt).trans (HXr.out.cell (k := 0) rfl)
          have hcw1 := (hSw.cell (p := ⟨w.heap.size, 1, none⟩) HXr.out.lt).trans (HXr.out.cell (k := 1) rfl)
          have hcw2 := (hSw.cell (p := ⟨w.heap.size, 2, none⟩) HXr.out.lt).trans (HXr.out.cell (k := 2) rfl)
          have hcw3 := (hSw.cell (p := ⟨w.heap.size, 3, none⟩) HXr.out.lt).trans (HXr.out.cell (k := 3) rfl)
          go_simp
        simp only [Act.put, List.setIfInBounds_toArray, List.set_cons_zero, List.set_cons_succ]
        refine wpAnyH_take (i := 1) (v := .slice (some ⟨b, o, none⟩) l.length cl) (by simp only [List.getElem?_toArray, List.getElem?_cons_zero, List.getElem?_cons_succ]; rfl) (by kernel_rfl) (by kernel_rfl) (by kernel_rfl) (fun _ _ _ h => h) (Or.inl ⟨by rfl, fun W hSw => ?_⟩) (by assumption) ?_
        · clear hSw
          go_simp
        simp only [Act.put, List.setIfInBounds_toArray, List.set_cons_zero, List.set_cons_succ]
        refine wpAnyH_take (i := 2) (v := .int .i64 (k : Int)) (by simp only [List.getElem?_toArray, List.getElem?_cons_zero, List.getElem?_cons_succ]; rfl) (by kernel_rfl) (by kernel_rfl) (by kernel_rfl) (fun _ _ _ h => h) (Or.inl ⟨by rfl, fun W hSw => ?_⟩) (by assumption) ?_
        · clear hSw
          go_simp
        simp only [Act.put, List.setIfInBounds_toArray, List.set_cons_zero, List.set_cons_succ]
        refine wpAnyH_take (i := 3) (v := .pointer (some ⟨b, o + k * 3, none⟩)) (by simp only [List.getElem?_toArray, List.getElem?_cons_zero, List.getElem?_cons_succ]; rfl) (by kernel_rfl) (by kernel_rfl) (by kernel_rfl) (fun _ _ _ h => h) (Or.inl ⟨by rfl, fun W hSw => ?_⟩) (by assumption) ?_
        · clear hSw
          go_simp
        simp only [Act.put, List.setIfInBounds_toArray, List.set_cons_zero, List.set_cons_succ]
        refine wpAnyH_take (i := 4) (v := .pointer (some ⟨b, o + k * 3 + 1, none⟩)) (by simp only [List.getElem?_toArray, List.getElem?_cons_zero, List.getElem?_cons_succ]; rfl) (by kernel_rfl) (by kernel_rfl) (by kernel_rfl) (fun _ _ _ h => h) (Or.inl ⟨by rfl, fun W hSw => ?_⟩) (by assumption) ?_
        · clear hSw
          go_simp
        simp only [Act.put, List.setIfInBounds_toArray, List.set_cons_zero, List.set_cons_succ]
        refine wpAnyH_take (i := 5) (v := .int .i64 s2) (by simp only [List.getElem?_toArray, List.getElem?_cons_zero, List.getElem?_cons_succ]; rfl) (by kernel_rfl) (by kernel_rfl) (by kernel_rfl) (fun _ _ _ h => h) (Or.inl ⟨by rfl, fun W hSw => ?_⟩) (by assumption) ?_
        · have hcw := (hSw.cell (p := ⟨b, o + k * 3 + 1, none⟩) HBl.out).trans HY.out.1
          go_simp
        simp only [Act.put, List.setIfInBounds_toArray, List.set_cons_zero, List.set_cons_succ]
        refine wpAnyH_take (i := 6) (v := .slice (some ⟨b, o, none⟩) l.length cl) (by simp only [List.getElem?_toArray, List.getElem?_cons_zero, List.getElem?_cons_succ]; rfl) (by kernel_rfl) (by kernel_rfl) (by kernel_rfl) (fun _ _ _ h => h) (Or.inl ⟨by rfl, fun W hSw => ?_⟩) (by assumption) ?_
        · clear hSw
          go_simp
        simp only [Act.put, List.setIfInBounds_toArray, List.set_cons_zero, List.set_cons_succ]
        refine wpAnyH_take (i := 7) (v := .int .i64 (k : Int)) (by simp only [List.getElem?_toArray, List.getElem?_cons_zero, List.getElem?_cons_succ]; rfl) (by kernel_rfl) (by kernel_rfl) (by kernel_rfl) (fun _ _ _ h => h) (Or.inl ⟨by rfl, fun W hSw => ?_⟩) (by assumption) ?_
        · clear hSw
          go_simp
        simp only [Act.put, List.setIfInBounds_toArray, List.set_cons_zero, List.set_cons_succ]
        refine wpAnyH_take (i := 8) (v := .pointer (some ⟨b, o + k * 3, none⟩)) (by simp only [List.getElem?_toArray, List.getElem?_cons_zero, List.getElem?_cons_succ]; rfl) (by kernel_rfl) (by kernel_rfl) (by kernel_rfl) (fun _ _ _ h => h) (Or.inl ⟨by rfl, fun W hSw => ?_⟩) (by assumption) ?_
        · clear hSw
          go_simp
        simp only [Act.put, List.setIfInBounds_toArray, List.set_cons_zero, List.set_cons_succ]
        refine wpAnyH_take (i := 9) (v := .pointer (some ⟨b, o + k * 3 + 2, none⟩)) (by simp only [List.getElem?_toArray, List.getElem?_cons_zero, List.getElem?_cons_succ]; rfl) (by kernel_rfl) (by kernel_rfl) (by kernel_rfl) (fun _ _ _ h => h) (Or.inl ⟨by rfl, fun W hSw => ?_⟩) (by assumption) ?_
        · clear hSw
          go_simp
        simp only [Act.put, List.setIfInBounds_toArray, List.set_cons_zero, List.set_cons_succ]
        refine wpAnyH_take (i := 10) (v := .int .i64 s3) (by simp only [List.getElem?_toArray, List.getElem?_cons_zero, List.getElem?_cons_succ]; rfl) (by kernel_rfl) (by kernel_rfl) (by kernel_rfl) (fun _ _ _ h => h) (Or.inl ⟨by rfl, fun W hSw => ?_⟩) (by assumption) ?_
        · have hcw := (hSw.cell (p := ⟨b, o + k * 3 + 2, none⟩) HBl.out).trans HY.out.2
          go_simp
        simp only [Act.put, List.setIfInBounds_toArray, List.set_cons_zero, List.set_cons_succ]
        refine wpAnyH_ready (rs := [11]) (by kernel_rfl) (by simp) ?_
        refine AllReadyH.cons (by simp only [List.getElem?_toArray, List.getElem?_cons_zero, List.getElem?_cons_succ]; rfl) (fun K hK => ?_) AllReadyH.nil
        rw [if_pos (by rfl)]
        go_simp
        go_at_call 38
        refine (HSs.out _ ((HR3.out.low HBr.out).low hb3.drew)).mono ?_
        rintro e w5 ⟨rfl, hb⟩
        have hb5 := hb3.drew.trans (hb.mono hb3.drew.size)
        dsimp only
        refine hK.out _ _ hb5 (fun _ => ?_)
        clear hK K hb
        refine wpAnyH_take (i := 12) (v := .tuple #[.int .i64 x, .int .i64 0]) (by simp only [List.getElem?_toArray, List.getElem?_cons_zero, List.getElem?_cons_succ]; rfl) (by kernel_rfl) (by kernel_rfl) (by kernel_rfl) (fun _ _ _ h => h) (Or.inl ⟨by rfl, fun W hSw => ?_⟩) (by assumption) ?_
        · clear hSw
          go_simp
        simp only [Act.put, List.setIfInBounds_toArray, List.set_cons_zero, List.set_cons_succ]
        refine wpAnyH_take (i := 13) (v := .int .i64 x) (by simp only [List.getElem?_toArray, List.getElem?_cons_zero, List.getElem?_cons_succ]; rfl) (by kernel_rfl) (by kernel_rfl) (by kernel_rfl) (fun _ _ _ h => h) (Or.inl ⟨by rfl, fun W hSw => ?_⟩) (by assumption) ?_
        · clear hSw
          go_simp
        simp only [Act.put, List.setIfInBounds_toArray, List.set_cons_zero, List.set_cons_succ]
        refine wpAnyH_take (i := 14) (v := .int .i64 0) (by simp only [List.getElem?_toArray, List.getElem?_cons_zero, List.getElem?_cons_succ]; rfl) (by kernel_rfl) (by kernel_rfl) (by kernel_rfl) (fun _ _ _ h => h) (Or.inl ⟨by rfl, fun W hSw => ?_⟩) (by assumption) ?_
        · clear hSw
          go_simp
        simp only [Act.put, List.setIfInBounds_toArray, List.set_cons_zero, List.set_cons_succ]
        refine wpAnyH_ready (rs := [15]) (by kernel_rfl) (by simp) ?_
        refine AllReadyH.cons (by simp only [List.getElem?_toArray, List.getElem?_cons_zero, List.getElem?_cons_succ]; rfl) (fun K hK => ?_) AllReadyH.nil
        rw [if_pos (by rfl)]
        go_simp
        refine hK.out _ _ hb5 (fun _ => ?_)
        clear hK K
        refine wpAnyH_ready (rs := [16]) (by kernel_rfl) (by simp) ?_
        refine AllReadyH.cons (by simp only [List.getElem?_toArray, List.getElem?_cons_zero, List.getElem?_cons_succ]; rfl) (fun K hK => ?_) AllReadyH.nil
        rw [if_pos (by rfl)]
        go_simp
        refine hK.out _ _ hb5 (fun _ => ?_)
        clear hK K
        refine wpAnyH_done (by kernel_rfl) ?_ _
        refine NoPanic.normal ?_
        have HB5 := hid (HBr.out.trans (hb5.mono HBr.out.size))
        have HB6 := hid (HBw.out.trans (hb5.mono (Nat.le_trans HB3.out.size HBr.out.size)))
        clear hb3 hb5 hHeld
        have hw1 : IntKind.i64.wrap (z + x) = z + x := by have := HXb.out; rw [IntKind.wrap_i64]; have := HLk.out; omega
        go_wp2
        go_roundw
        case rel => exact ⟨k + 1, z + x, HLk.out, by go_num, rfl, hid ⟨by rw [HG.out.1, HNx.out], by have := HXb.out; have := HG.out.2; omega, by have := HXb.out; have := HG.out.2; omega⟩, HB5.out⟩
        case measure => have := HLk.out; simp [intOf]; omega
      | none =>
        rw [hx] at HSs
        have HSs : Hid (∀ W, RfAt W A cp C → Calls Tryz.prog 38 #[.agg #[.slice (A 0) (C 0).length (cp 0), .slice (A 1) (C 1).length (cp 1), .slice (A 2) (C 2).length (cp 2), .slice (A 3) (C 3).length (cp 3)], .int .i64 s.len, .int .i64 s.off] W (RetV W (.tuple #[.int .i64 0, .int .i64 2]))) := HSs
        clear hx
        obtain ⟨s1, s2, s3⟩ := s
        dsimp only at *
        go_upto_region 8 with fail
        have hb3 := Below.refl wr.heap.size wr
        refine wp_region_noPanic ?_
        refine wp_region_held_drew (S := fun W' => Below wr.heap.size wr W') (by kernel_rfl) hb3.drew (fun hHeld => ?_)
        refine wpAnyH_take (i := 0) (v := .agg #[.slice (A 0) (C 0).length (cp 0), .slice (A 1) (C 1).length (cp 1), .slice (A 2) (C 2).length (cp 2), .slice (A 3) (C 3).length (cp 3)]) (by simp only [List.getElem?_toArray, List.getElem?_cons_zero]; rfl) (by kernel_rfl) (by kernel_rfl) (by kernel_rfl) (fun _ _ _ h => h) (Or.inl ⟨by rfl, fun W hSw => ?_⟩) (by assumption) ?_
        · have hcw0 := (hSw.cell (p := ⟨w.heap.size, 0, none⟩) HXr.out.lt).trans (HXr.out.cell (k := 0) rfl)
          have hcw1 := (hSw.cell (p := ⟨w.heap.size, 1, none⟩) HXr.out.lt).trans (HXr.out.cell (k := 1) rfl)
          have hcw2 := (hSw.cell (p := ⟨w.heap.size, 2, none⟩) HXr.out.lt).trans (HXr.out.cell (k := 2) rfl)
          have hcw3 := (hSw.cell (p := ⟨w.heap.size, 3, none⟩) HXr.out.lt).trans (HXr.out.cell (k := 3) rfl)
          go_simp
        simp only [Act.put, List.setIfInBounds_toArray, List.set_cons_zero, List.set_cons_succ]
        refine wpAnyH_take (i := 1) (v := .slice (some ⟨b, o, none⟩) l.length cl) (by simp only [List.getElem?_toArray, List.getElem?_cons_zero, List.getElem?_cons_succ]; rfl) (by kernel_rfl) (by kernel_rfl) (by kernel_rfl) (fun _ _ _ h => h) (Or.inl ⟨by rfl, fun W hSw => ?_⟩) (by assumption) ?_
        · clear hSw
          go_simp
        simp only [Act.put, List.setIfInBounds_toArray, List.set_cons_zero, List.set_cons_succ]
        refine wpAnyH_take (i := 2) (v := .int .i64 (k : Int)) (by simp only [List.getElem?_toArray, List.getElem?_cons_zero, List.getElem?_cons_succ]; rfl) (by kernel_rfl) (by kernel_rfl) (by kernel_rfl) (fun _ _ _ h => h) (Or.inl ⟨by rfl, fun W hSw => ?_⟩) (by assumption) ?_
        · clear hSw
          go_simp
        simp only [Act.put, List.setIfInBounds_toArray, List.set_cons_zero, List.set_cons_succ]
        refine wpAnyH_take (i := 3) (v := .pointer (some ⟨b, o + k * 3, none⟩)) (by simp only [List.getElem?_toArray, List.getElem?_cons_zero, List.getElem?_cons_succ]; rfl) (by kernel_rfl) (by kernel_rfl) (by kernel_rfl) (fun _ _ _ h => h) (Or.inl ⟨by rfl, fun W hSw => ?_⟩) (by assumption) ?_
        · clear hSw
          go_simp
        simp only [Act.put, List.setIfInBounds_toArray, List.set_cons_zero, List.set_cons_succ]
        refine wpAnyH_take (i := 4) (v := .pointer (some ⟨b, o + k * 3 + 1, none⟩)) (by simp only [List.getElem?_toArray, List.getElem?_cons_zero, List.getElem?_cons_succ]; rfl) (by kernel_rfl) (by kernel_rfl) (by kernel_rfl) (fun _ _ _ h => h) (Or.inl ⟨by rfl, fun W hSw => ?_⟩) (by assumption) ?_
        · clear hSw
          go_simp
        simp only [Act.put, List.setIfInBounds_toArray, List.set_cons_zero, List.set_cons_succ]
        refine wpAnyH_take (i := 5) (v := .int .i64 s2) (by simp only [List.getElem?_toArray, List.getElem?_cons_zero, List.getElem?_cons_succ]; rfl) (by kernel_rfl) (by kernel_rfl) (by kernel_rfl) (fun _ _ _ h => h) (Or.inl ⟨by rfl, fun W hSw => ?_⟩) (by assumption) ?_
        · have hcw := (hSw.cell (p := ⟨b, o + k * 3 + 1, none⟩) HBl.out).trans HY.out.1
          go_simp
        simp only [Act.put, List.setIfInBounds_toArray, List.set_cons_zero, List.set_cons_succ]
        refine wpAnyH_take (i := 6) (v := .slice (some ⟨b, o, none⟩) l.length cl) (by simp only [List.getElem?_toArray, List.getElem?_cons_zero, List.getElem?_cons_succ]; rfl) (by kernel_rfl) (by kernel_rfl) (by kernel_rfl) (fun _ _ _ h => h) (Or.inl ⟨by rfl, fun W hSw => ?_⟩) (by assumption) ?_
        · clear hSw
          go_simp
        simp only [Act.put, List.setIfInBounds_toArray, List.set_cons_zero, List.set_cons_succ]
        refine wpAnyH_take (i := 7) (v := .int .i64 (k : Int)) (by simp only [List.getElem?_toArray, List.getElem?_cons_zero, List.getElem?_cons_succ]; rfl) (by kernel_rfl) (by kernel_rfl) (by kernel_rfl) (fun _ _ _ h => h) (Or.inl ⟨by rfl, fun W hSw => ?_⟩) (by assumption) ?_
        · clear hSw
          go_simp
        simp only [Act.put, List.setIfInBounds_toArray, List.set_cons_zero, List.set_cons_succ]
        refine wpAnyH_take (i := 8) (v := .pointer (some ⟨b, o + k * 3, none⟩)) (by simp only [List.getElem?_toArray, List.getElem?_cons_zero, List.getElem?_cons_succ]; rfl) (by kernel_rfl) (by kernel_rfl) (by kernel_rfl) (fun _ _ _ h => h) (Or.inl ⟨by rfl, fun W hSw => ?_⟩) (by assumption) ?_
        · clear hSw
          go_simp
        simp only [Act.put, List.setIfInBounds_toArray, List.set_cons_zero, List.set_cons_succ]
        refine wpAnyH_take (i := 9) (v := .pointer (some ⟨b, o + k * 3 + 2, none⟩)) (by simp only [List.getElem?_toArray, List.getElem?_cons_zero, List.getElem?_cons_succ]; rfl) (by kernel_rfl) (by kernel_rfl) (by kernel_rfl) (fun _ _ _ h => h) (Or.inl ⟨by rfl, fun W hSw => ?_⟩) (by assumption) ?_
        · clear hSw
          go_simp
        simp only [Act.put, List.setIfInBounds_toArray, List.set_cons_zero, List.set_cons_succ]
        refine wpAnyH_take (i := 10) (v := .int .i64 s3) (by simp only [List.getElem?_toArray, List.getElem?_cons_zero, List.getElem?_cons_succ]; rfl) (by kernel_rfl) (by kernel_rfl) (by kernel_rfl) (fun _ _ _ h => h) (Or.inl ⟨by rfl, fun W hSw => ?_⟩) (by assumption) ?_
        · have hcw := (hSw.cell (p := ⟨b, o + k * 3 + 2, none⟩) HBl.out).trans HY.out.2
          go_simp
        simp only [Act.put, List.setIfInBounds_toArray, List.set_cons_zero, List.set_cons_succ]
        refine wpAnyH_ready (rs := [11]) (by kernel_rfl) (by simp) ?_
        refine AllReadyH.cons (by simp only [List.getElem?_toArray, List.getElem?_cons_zero, List.getElem?_cons_succ]; rfl) (fun K hK => ?_) AllReadyH.nil
        rw [if_pos (by rfl)]
        go_simp
        go_at_call 38
        refine (HSs.out _ ((HR3.out.low HBr.out).low hb3.drew)).mono ?_
        rintro e w5 ⟨rfl, hb⟩
        have hb5 := hb3.drew.trans (hb.mono hb3.drew.size)
        dsimp only
        refine hK.out _ _ hb5 (fun _ => ?_)
        clear hK K hb
        refine wpAnyH_take (i := 12) (v := .tuple #[.int .i64 0, .int .i64 2]) (by simp only [List.getElem?_toArray, List.getElem?_cons_zero, List.getElem?_cons_succ]; rfl) (by kernel_rfl) (by kernel_rfl) (by kernel_rfl) (fun _ _ _ h => h) (Or.inl ⟨by rfl, fun W hSw => ?_⟩) (by assumption) ?_
        · clear hSw
          go_simp
        simp only [Act.put, List.setIfInBounds_toArray, List.set_cons_zero, List.set_cons_succ]
        refine wpAnyH_take (i := 13) (v := .int .i64 0) (by simp only [List.getElem?_toArray, List.getElem?_cons_zero, List.getElem?_cons_succ]; rfl) (by kernel_rfl) (by kernel_rfl) (by kernel_rfl) (fun _ _ _ h => h) (Or.inl ⟨by rfl, fun W hSw => ?_⟩) (by assumption) ?_
        · clear hSw
          go_simp
        simp only [Act.put, List.setIfInBounds_toArray, List.set_cons_zero, List.set_cons_succ]
        refine wpAnyH_take (i := 14) (v := .int .i64 2) (by simp only [List.getElem?_toArray, List.getElem?_cons_zero, List.getElem?_cons_succ]; rfl) (by kernel_rfl) (by kernel_rfl) (by kernel_rfl) (fun _ _ _ h => h) (Or.inl ⟨by rfl, fun W hSw => ?_⟩) (by assumption) ?_
        · clear hSw
          go_simp
        simp only [Act.put, List.setIfInBounds_toArray, List.set_cons_zero, List.set_cons_succ]
        refine wpAnyH_ready (rs := [15]) (by kernel_rfl) (by simp) ?_
        refine AllReadyH.cons (by simp only [List.getElem?_toArray, List.getElem?_cons_zero, List.getElem?_cons_succ]; rfl) (fun K hK => ?_) AllReadyH.nil
        rw [if_pos (by rfl)]
        go_simp
        refine hK.out _ _ hb5 (fun _ => ?_)
        clear hK K
        refine wpAnyH_ready (rs := [16]) (by kernel_rfl) (by simp) ?_
        refine AllReadyH.cons (by simp only [List.getElem?_toArray, List.getElem?_cons_zero, List.getElem?_cons_succ]; rfl) (fun K hK => ?_) AllReadyH.nil
        rw [if_pos (by rfl)]
        go_simp
        refine hK.out _ _ hb5 (fun _ => ?_)
        clear hK K
        refine wpAnyH_done (by kernel_rfl) ?_ _
        refine NoPanic.normal ?_
        have HB5 := hid (HBr.out.trans (hb5.mono HBr.out.size))
        have HB6 := hid (HBw.out.trans (hb5.mono (Nat.le_trans HB3.out.size HBr.out.size)))
        clear hb3 hb5 hHeld
        go_wp2
        go_ret2
        exact ⟨rfl, HB6.out⟩
    · obtain rfl : k = l.length := by omega
      have hq := HG.out.1
      rw [HO.out, List.drop_eq_nil_of_le (Nat.le_refl _)] at hq
      cases hq
theorem rplan_any (A : Nat → Option Addr) (cp : Nat → Nat) (C : Nat → List Int) (w : World) (h : RfAt w A cp C) (a : Option Addr) (cl : Nat) (l : List Sq) (ad : Option Addr) (c : Nat) (bs : List UInt8) (hpd : PdAt w a cl l ad c bs) (hwf : ∀ s ∈ l, (-9223372036854775808 ≤ s.len ∧ s.len ≤ 9223372036854775807) ∧ (-9223372036854775808 ≤ s.off ∧ s.off ≤ 9223372036854775807)) :
    Calls Tryz.prog 19 #[fourV A cp C, .slice ad bs.length c, .slice a l.length cl] w (RetV w (planV C bs l)) := by
  unfold planV
  cases hp : plitsO bs l with
  | false => rw [if_neg (by decide)]; exact rplan_bad A cp C w h a cl l ad c bs hpd hwf hp
  | true =>
    rw [if_pos rfl]
    cases ho : planO C bs l with
    | some x => exact rplan_ok A cp C w h a cl l ad c bs hpd hwf hp x ho
    | none => exact rplan_none A cp C w h a cl l ad c bs hpd hwf hp ho
end Go.Proofs.YtiagbejfghincaaGreat
