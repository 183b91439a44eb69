/-
  The walks of layer 32 (price): what a plan costs.
-/
import Derived.Test.YtiagbejfghincaaGreatX19
import Derived.Test.YtiagbejfghincaaGreatX21
namespace Go.Port
open Go.RowKit
/-- The matches' costs behind n, if each has one. -/
def stepsGo (C : Nat → List Int) : Int → List Sq → Option Int
  | n, [] => some n
  | n, s :: r => match stepC C s.len s.off with
    | some x => stepsGo C (n + x) r
    | none => none
/-- What a plan costs. -/
def planO (C : Nat → List Int) (bs : List UInt8) (l : List Sq) : Option Int := stepsGo C (litsC C (litsS bs l)) l
theorem stepsGo_some {C : Nat → List Int} {l : List Sq} {k : Nat} {s : Sq} {z x : Int} (hk : l[k]? = some s) (hx : stepC C s.len s.off = some x) : stepsGo C z (l.drop k) = stepsGo C (z + x) (l.drop (k + 1)) := by
  obtain ⟨h1, h2⟩ := List.getElem?_eq_some_iff.1 hk
  rw [List.drop_eq_getElem_cons h1, h2]
  show (match stepC C s.len s.off with | some x => stepsGo C (z + x) (l.drop (k + 1)) | none => none) = _
  rw [hx]
theorem stepsGo_none {C : Nat → List Int} {l : List Sq} {k : Nat} {s : Sq} {z : Int} (hk : l[k]? = some s) (hx : stepC C s.len s.off = none) : stepsGo C z (l.drop k) = none := by
  obtain ⟨h1, h2⟩ := List.getElem?_eq_some_iff.1 hk
  rw [List.drop_eq_getElem_cons h1, h2]
  show (match stepC C s.len s.off with | some x => stepsGo C (z + x) (l.drop (k + 1)) | none => none) = _
  rw [hx]
theorem stepC_bounds {C : Nat → List Int} (h : ∀ k, k < 4 → HistOk k (C k)) {n off x : Int} (e : stepC C n off = some x) : -65536 ≤ x ∧ x ≤ 65536 := by
  unfold stepC at e
  split at e
  · cases e
  · cases hb : numC C 2 (off + 3) with
    | none => rw [hb] at e; cases e
    | some b =>
      cases ha : lenC C n with
      | none => rw [hb, ha] at e; cases e
      | some a =>
        rw [hb, ha] at e
        have e : b + a = x := by simpa using e
        have h1 := numC_bounds (by decide) (h 2 (by decide)) hb
        have h2 : -16384 ≤ a ∧ a ≤ 32768 := by
          unfold lenC at ha
          split at ha
          · cases ha
          · exact numC_bounds (by decide) (h 3 (by decide)) ha
        omega
end Go.Port
namespace Go.Proofs.YtiagbejfghincaaGreat
open Go.RowKit Go.Port
set_option maxRecDepth 100000 in
set_option maxHeartbeats 8000000 in
theorem prplan1_ok (W : World) (M : Nat) (C : Nat → List Int) (h : PrAt W M C) (q0 q1 q2 : Nat) (a : Option Addr) (cl : Nat) (l : List Sq) (ad : Option Addr) (c : Nat) (bs : List UInt8) (hpd : PdAt W a cl l ad c bs) (hwf : ∀ s ∈ l, (-9223372036854775808 ≤ s.len ∧ s.len ≤ 9223372036854775807) ∧ (-9223372036854775808 ≤ s.off ∧ s.off ≤ 9223372036854775807)) (hp : plitsO bs l = true) (xr : Int) (hO : planO C bs l = some xr)
    (hb0 : Blk W q0 [.pointer (some ⟨M, 0, none⟩)] 28) (hb1 : Blk W q1 [.slice ad bs.length c] 22) (hb2 : Blk W q2 [.slice a l.length cl] 38) :
    Calls Tryz.prog 45 #[.pointer (some ⟨q0, 0, none⟩), .pointer (some ⟨q1, 0, none⟩), .pointer (some ⟨q2, 0, none⟩)] W (RetV W (.int .i64 xr)) := by
  have HP := hid h
  have HD := hid hpd
  have HWf := hid hwf
  have HO := hid hO
  have HOk := hid h.ok
  have HB0 := hid hb0
  have HB1 := hid hb1
  have HB2 := hid hb2
  have HLi := hid (fun W' (hb : Below W.heap.size W W') => prliterals_ok W' a cl l ad c bs (hpd.low hb) hp)
  have hlen : (litsS bs l).length ≤ 131072 := by
    have hp' := hp
    unfold plitsO at hp'
    split at hp'
    · rename_i n hn
      have h1 := litsS_len hn (by simpa using hp')
      have := hpd.small
      omega
    · cases hp'
  have HLn := hid hlen
  have HLt := hid (fun W' a1 c1 (hb : Below W.heap.size W W') (hc : Cs W' a1 ((litsS bs l).map bv)) => prlits_any W' M C (h.low hb) a1 c1 (litsS bs l) (by omega) hc)
  have hLB := lits_bounds (h.ok 0 (by decide)) (litsS bs l)
  have HLB := hid (show -16384 * (131072 : Int) ≤ litsC C (litsS bs l) ∧ litsC C (litsS bs l) ≤ 32768 * (131072 : Int) from by omega)
  have hlI : (l.length : Int) ≤ 40000 := by have := hpd.hl; omega
  have hlcI : (l.length : Int) ≤ (cl : Int) := by have := hpd.hlc; omega
  clear h hpd hwf hO hb0 hb1 hb2 hp hlen hLB
  go_enter Tryz.func45, Tryz.ntmps45
  go_upto_region 1 with fail
  have hb3 := Below.refl W.heap.size W
  refine wp_region_noPanic ?_
  refine wp_region_held_drew (S := fun W' => Below W.heap.size W W') (by kernel_rfl) hb3.drew (fun hHeld => ?_)
  refine wpAnyH_take (i := 0) (v := .pointer (some ⟨M, 0, none⟩)) (by simp only [List.getElem?_toArray, List.getElem?_cons_zero]; rfl) (by kernel_rfl) (by kernel_rfl) (by kernel_rfl) (fun _ _ _ h => h) (Or.inl ⟨by rfl, fun W hSw => ?_⟩) (by assumption) ?_
  · have hcw := (hSw.cell (p := ⟨q0, 0, none⟩) HB0.out.lt).trans (HB0.out.cell (k := 0) rfl)
    go_simp
  simp only [Act.put, List.setIfInBounds_toArray, List.set_cons_zero, List.set_cons_succ]
  refine wpAnyH_take (i := 1) (v := .slice ad bs.length c) (by simp only [List.getElem?_toArray, List.getElem?_cons_zero, List.getElem?_cons_succ]; rfl) (by kernel_rfl) (by kernel_rfl) (by kernel_rfl) (fun _ _ _ h => h) (Or.inl ⟨by rfl, fun W hSw => ?_⟩) (by assumption) ?_
  · have hcw := (hSw.cell (p := ⟨q1, 0, none⟩) HB1.out.lt).trans (HB1.out.cell (k := 0) rfl)
    go_simp
  simp only [Act.put, List.setIfInBounds_toArray, List.set_cons_zero, List.set_cons_succ]
  refine wpAnyH_take (i := 2) (v := .slice a l.length cl) (by simp only [List.getElem?_toArray, List.getElem?_cons_zero, List.getElem?_cons_succ]; rfl) (by kernel_rfl) (by kernel_rfl) (by kernel_rfl) (fun _ _ _ h => h) (Or.inl ⟨by rfl, fun W hSw => ?_⟩) (by assumption) ?_
  · have hcw := (hSw.cell (p := ⟨q2, 0, none⟩) HB2.out.lt).trans (HB2.out.cell (k := 0) rfl)
    go_simp
  simp only [Act.put, List.setIfInBounds_toArray, List.set_cons_zero, List.set_cons_succ]
  refine wpAnyH_ready (rs := [3]) (by kernel_rfl) (by simp) ?_
  refine AllReadyH.cons (by simp only [List.getElem?_toArray, List.getElem?_cons_zero, List.getElem?_cons_succ]; rfl) (fun K hK => ?_) AllReadyH.nil
  rw [if_pos (by rfl)]
  go_simp
  go_at_call 46
  refine (HLi.out _ hb3.drew).mono ?_
  rintro e w3 ⟨v, rfl, hown, hb⟩
  obtain ⟨a1, c1, rfl⟩ := own_slice hown
  have hS := (Sl.of_owns hown).open
  obtain ⟨a9, c9, e9, _, _, _, hcs9⟩ := hS
  cases e9
  have HCs := hid hcs9
  have hb4 := hb3.drew.trans (hb.mono hb3.drew.size)
  dsimp only
  refine hK.out _ _ hb4 (fun _ => ?_)
  clear hK K hown hb hcs9
  refine wpAnyH_ready (rs := [4]) (by kernel_rfl) (by simp) ?_
  refine AllReadyH.cons (by simp only [List.getElem?_toArray, List.getElem?_cons_zero, List.getElem?_cons_succ]; rfl) (fun K hK => ?_) AllReadyH.nil
  rw [if_pos (by rfl)]
  go_simp
  go_at_call 25
  refine (HLt.out _ a1 c1 hb4 HCs.out).mono ?_
  rintro e w' ⟨rfl, rfl⟩
  dsimp only
  refine hK.out _ _ hb4 (fun _ => ?_)
  clear hK K
  refine wpAnyH_ready (rs := [5]) (by kernel_rfl) (by simp) ?_
  refine AllReadyH.cons (by simp only [List.getElem?_toArray, List.getElem?_cons_zero, List.getElem?_cons_succ]; rfl) (fun K hK => ?_) AllReadyH.nil
  rw [if_pos (by rfl)]
  go_simp
  refine hK.out _ _ hb4 (fun _ => ?_)
  clear hK K
  refine wpAnyH_done (by kernel_rfl) ?_ _
  refine NoPanic.normal ?_
  have HB4 := hid hb4
  have HX2 := hid (HB2.out.below hb4 HB2.out.lt)
  have c2 := HX2.out.cell (k := 0) rfl
  clear hb3 hb4 HCs HLi HLt
  obtain ⟨z0, hz0⟩ : ∃ z, litsC C (litsS bs l) = z := ⟨_, rfl⟩
  have HZ0 := hid hz0
  unfold planO at HO
  rw [hz0] at HLB HO ⊢
  clear hz0
  go_wp2_with fail
  go_loopw [4, 14] (fun n i wr => ∃ (k : Nat) (z : Int), k ≤ l.length ∧ i = .int .i64 (k : Int) ∧ n = .int .i64 z ∧ Hid (stepsGo C z0 l = stepsGo C z (l.drop k) ∧ -16384 * (131072 : Int) - 65536 * (k : Int) ≤ z ∧ z ≤ 32768 * (131072 : Int) + 65536 * (k : Int)) ∧ Below W.heap.size W wr) (fun _ i _ => l.length - (intOf i).toNat)
  case atStart => exact ⟨0, z0, Nat.zero_le _, rfl, rfl, hid ⟨rfl, by have := HLB.out; omega, by have := HLB.out; omega⟩, HB4.out⟩
  case round =>
    obtain ⟨k, z, hk, rfl, rfl, HG, hb⟩ := hrel
    have HBr := hid hb
    by_cases hlt : k < l.length
    · obtain ⟨s, hsk⟩ : ∃ s, l[k]? = some s := ⟨l[k], by simp [hlt]⟩
      obtain ⟨b, o, rfl, hbl, y0, y1, y2⟩ := seq_cells (HD.out.cells.low hb) hsk
      have hwk := HWf.out s (List.mem_of_getElem? hsk)
      have HSk := hid hsk
      have hltI : (k : Int) < (l.length : Int) := by omega
      have HLk := hid hlt
      have HXn := hid (Blk.new wr [.int .i64 s.lit, .int .i64 s.len, .int .i64 s.off] 44)
      have HBn := hid (below_new wr (.cells #[.int .i64 s.lit, .int .i64 s.len, .int .i64 s.off] 44))
      have HBw := hid (HBr.out.trans (HBn.out.mono HBr.out.size))
      have HSt := hid (prstep_any _ M C (HP.out.low HBw.out) s.len s.off hwk.1.1 hwk.1.2 hwk.2.1 hwk.2.2)
      have hX0 := HB0.out.below HBw.out HB0.out.lt
      have x0 := hX0.cell (k := 0) rfl
      have x1 := HXn.out.cell (k := 1) rfl
      have x2 := HXn.out.cell (k := 2) rfl
      have hz := HG.out.2
      clear hsk hwk hlt hk hb hbl hX0
      cases hx : stepC C s.len s.off with
      | some x =>
        rw [hx] at HSt
        have HSt : Hid (Calls Tryz.prog _ _ _ (RetV _ (.int .i64 x))) := HSt
        have HXb := hid (stepC_bounds HOk.out hx)
        have HNx := hid (stepsGo_some (z := z) HSk.out hx)
        clear hx
        obtain ⟨s1, s2, s3⟩ := s
        dsimp only at *
        go_wp2_with fail
        clear y0 y1 y2 x0 x1 x2
        refine HSt.out.mono ?_
        rintro e w4 ⟨rfl, hb⟩
        have HB5 := hid (HBw.out.trans (hb.mono HBw.out.size))
        have hw1 : IntKind.i64.wrap (z + x) = z + x := by have := HXb.out; rw [IntKind.wrap_i64]; have := HLk.out; omega
        clear hb HSt
        go_wp2
        go_roundw
        case rel => exact ⟨k + 1, z + x, HLk.out, by go_num, rfl, hid ⟨by rw [HG.out.1, HNx.out], by have := HXb.out; have := HG.out.2; omega, by have := HXb.out; have := HG.out.2; omega⟩, HB5.out⟩
        case measure => have := HLk.out; simp [intOf]; omega
      | none =>
        have hq := stepsGo_none (z := z) HSk.out hx
        rw [← HG.out.1, HO.out] at hq
        cases hq
    · obtain rfl : k = l.length := by omega
      have hq := HG.out.1
      rw [HO.out, List.drop_eq_nil_of_le (Nat.le_refl _)] at hq
      have hq : some xr = some z := hq
      cases hq
      clear hk hb
      go_wp2
      go_ret
      exact ⟨rfl, HBr.out⟩
set_option maxRecDepth 100000 in
set_option maxHeartbeats 8000000 in
theorem prplan1_err (W : World) (M : Nat) (C : Nat → List Int) (h : PrAt W M C) (q0 q1 q2 : Nat) (a : Option Addr) (cl : Nat) (l : List Sq) (ad : Option Addr) (c : Nat) (bs : List UInt8) (hpd : PdAt W a cl l ad c bs) (hwf : ∀ s ∈ l, (-9223372036854775808 ≤ s.len ∧ s.len ≤ 9223372036854775807) ∧ (-9223372036854775808 ≤ s.off ∧ s.off ≤ 9223372036854775807)) (hp : plitsO bs l = true) (hO : planO C bs l = none)
    (hb0 : Blk W q0 [.pointer (some ⟨M, 0, none⟩)] 28) (hb1 : Blk W q1 [.slice ad bs.length c] 22) (hb2 : Blk W q2 [.slice a l.length cl] 38) :
    Calls Tryz.prog 45 #[.pointer (some ⟨q0, 0, none⟩), .pointer (some ⟨q1, 0, none⟩), .pointer (some ⟨q2, 0, none⟩)] W (PanV W 2) := by
  have HP := hid h
  have HD := hid hpd
  have HWf := hid hwf
  have HO := hid hO
  have HOk := hid h.ok
  have HB0 := hid hb0
  have HB1 := hid hb1
  have HB2 := hid hb2
  have HLi := hid (fun W' (hb : Below W.heap.size W W') => prliterals_ok W' a cl l ad c bs (hpd.low hb) hp)
  have hlen : (litsS bs l).length ≤ 131072 := by
    have hp' := hp
    unfold plitsO at hp'
    split at hp'
    · rename_i n hn
      have h1 := litsS_len hn (by simpa using hp')
      have := hpd.small
      omega
    · cases hp'
  have HLn := hid hlen
  have HLt := hid (fun W' a1 c1 (hb : Below W.heap.size W W') (hc : Cs W' a1 ((litsS bs l).map bv)) => prlits_any W' M C (h.low hb) a1 c1 (litsS bs l) (by omega) hc)
  have hLB := lits_bounds (h.ok 0 (by decide)) (litsS bs l)
  have HLB := hid (show -16384 * (131072 : Int) ≤ litsC C (litsS bs l) ∧ litsC C (litsS bs l) ≤ 32768 * (131072 : Int) from by omega)
  have hlI : (l.length : Int) ≤ 40000 := by have := hpd.hl; omega
  have hlcI : (l.length : Int) ≤ (cl : Int) := by have := hpd.hlc; omega
  clear h hpd hwf hO hb0 hb1 hb2 hp hlen hLB
  go_enter Tryz.func45, Tryz.ntmps45
  go_upto_region 1 with fail
  have hb3 := Below.refl W.heap.size W
  refine wp_region_noPanic ?_
  refine wp_region_held_drew (S := fun W' => Below W.heap.size W W') (by kernel_rfl) hb3.drew (fun hHeld => ?_)
  refine wpAnyH_take (i := 0) (v := .pointer (some ⟨M, 0, none⟩)) (by simp only [List.getElem?_toArray, List.getElem?_cons_zero]; rfl) (by kernel_rfl) (by kernel_rfl) (by kernel_rfl) (fun _ _ _ h => h) (Or.inl ⟨by rfl, fun W hSw => ?_⟩) (by assumption) ?_
  · have hcw := (hSw.cell (p := ⟨q0, 0, none⟩) HB0.out.lt).trans (HB0.out.cell (k := 0) rfl)
    go_simp
  simp only [Act.put, List.setIfInBounds_toArray, List.set_cons_zero, List.set_cons_succ]
  refine wpAnyH_take (i := 1) (v := .slice ad bs.length c) (by simp only [List.getElem?_toArray, List.getElem?_cons_zero, List.getElem?_cons_succ]; rfl) (by kernel_rfl) (by kernel_rfl) (by kernel_rfl) (fun _ _ _ h => h) (Or.inl ⟨by rfl, fun W hSw => ?_⟩) (by assumption) ?_
  · have hcw := (hSw.cell (p := ⟨q1, 0, none⟩) HB1.out.lt).trans (HB1.out.cell (k := 0) rfl)
    go_simp
  simp only [Act.put, List.setIfInBounds_toArray, List.set_cons_zero, List.set_cons_succ]
  refine wpAnyH_take (i := 2) (v := .slice a l.length cl) (by simp only [List.getElem?_toArray, List.getElem?_cons_zero, List.getElem?_cons_succ]; rfl) (by kernel_rfl) (by kernel_rfl) (by kernel_rfl) (fun _ _ _ h => h) (Or.inl ⟨by rfl, fun W hSw => ?_⟩) (by assumption) ?_
  · have hcw := (hSw.cell (p := ⟨q2, 0, none⟩) HB2.out.lt).trans (HB2.out.cell (k := 0) rfl)
    go_simp
  simp only [Act.put, List.setIfInBounds_toArray, List.set_cons_zero, List.set_cons_succ]
  refine wpAnyH_ready (rs := [3]) (by kernel_rfl) (by simp) ?_
  refine AllReadyH.cons (by simp only [List.getElem?_toArray, List.getElem?_cons_zero, List.getElem?_cons_succ]; rfl) (fun K hK => ?_) AllReadyH.nil
  rw [if_pos (by rfl)]
  go_simp
  go_at_call 46
  refine (HLi.out _ hb3.drew).mono ?_
  rintro e w3 ⟨v, rfl, hown, hb⟩
  obtain ⟨a1, c1, rfl⟩ := own_slice hown
  have hS := (Sl.of_owns hown).open
  obtain ⟨a9, c9, e9, _, _, _, hcs9⟩ := hS
  cases e9
  have HCs := hid hcs9
  have hb4 := hb3.drew.trans (hb.mono hb3.drew.size)
  dsimp only
  refine hK.out _ _ hb4 (fun _ => ?_)
  clear hK K hown hb hcs9
  refine wpAnyH_ready (rs := [4]) (by kernel_rfl) (by simp) ?_
  refine AllReadyH.cons (by simp only [List.getElem?_toArray, List.getElem?_cons_zero, List.getElem?_cons_succ]; rfl) (fun K hK => ?_) AllReadyH.nil
  rw [if_pos (by rfl)]
  go_simp
  go_at_call 25
  refine (HLt.out _ a1 c1 hb4 HCs.out).mono ?_
  rintro e w' ⟨rfl, rfl⟩
  dsimp only
  refine hK.out _ _ hb4 (fun _ => ?_)
  clear hK K
  refine wpAnyH_ready (rs := [5]) (by kernel_rfl) (by simp) ?_
  refine AllReadyH.cons (by simp only [List.getElem?_toArray, List.getElem?_cons_zero, List.getElem?_cons_succ]; rfl) (fun K hK => ?_) AllReadyH.nil
  rw [if_pos (by rfl)]
  go_simp
  refine hK.out _ _ hb4 (fun _ => ?_)
  clear hK K
  refine wpAnyH_done (by kernel_rfl) ?_ _
  refine NoPanic.normal ?_
  have HB4 := hid hb4
  have HX2 := hid (HB2.out.below hb4 HB2.out.lt)
  have c2 := HX2.out.cell (k := 0) rfl
  clear hb3 hb4 HCs HLi HLt
  obtain ⟨z0, hz0⟩ : ∃ z, litsC C (litsS bs l) = z := ⟨_, rfl⟩
  have HZ0 := hid hz0
  unfold planO at HO
  rw [hz0] at HLB HO ⊢
  clear hz0
  go_wp2_with fail
  go_loopw [4, 14] (fun n i wr => ∃ (k : Nat) (z : Int), k ≤ l.length ∧ i = .int .i64 (k : Int) ∧ n = .int .i64 z ∧ Hid (stepsGo C z0 l = stepsGo C z (l.drop k) ∧ -16384 * (131072 : Int) - 65536 * (k : Int) ≤ z ∧ z ≤ 32768 * (131072 : Int) + 65536 * (k : Int)) ∧ Below W.heap.size W wr) (fun _ i _ => l.length - (intOf i).toNat)
  case atStart => exact ⟨0, z0, Nat.zero_le _, rfl, rfl, hid ⟨rfl, by have := HLB.out; omega, by have := HLB.out; omega⟩, HB4.out⟩
  case round =>
    obtain ⟨k, z, hk, rfl, rfl, HG, hb⟩ := hrel
    have HBr := hid hb
    by_cases hlt : k < l.length
    · obtain ⟨s, hsk⟩ : ∃ s, l[k]? = some s := ⟨l[k], by simp [hlt]⟩
      obtain ⟨b, o, rfl, hbl, y0, y1, y2⟩ := seq_cells (HD.out.cells.low hb) hsk
      have hwk := HWf.out s (List.mem_of_getElem? hsk)
      have HSk := hid hsk
      have hltI : (k : Int) < (l.length : Int) := by omega
      have HLk := hid hlt
      have HXn := hid (Blk.new wr [.int .i64 s.lit, .int .i64 s.len, .int .i64 s.off] 44)
      have HBn := hid (below_new wr (.cells #[.int .i64 s.lit, .int .i64 s.len, .int .i64 s.off] 44))
      have HBw := hid (HBr.out.trans (HBn.out.mono HBr.out.size))
      have HSt := hid (prstep_any _ M C (HP.out.low HBw.out) s.len s.off hwk.1.1 hwk.1.2 hwk.2.1 hwk.2.2)
      have hX0 := HB0.out.below HBw.out HB0.out.lt
      have x0 := hX0.cell (k := 0) rfl
      have x1 := HXn.out.cell (k := 1) rfl
      have x2 := HXn.out.cell (k := 2) rfl
      have hz := HG.out.2
      clear hsk hwk hlt hk hb hbl hX0
      cases hx : stepC C s.len s.off with
      | some x =>
        rw [hx] at HSt
        have HSt : Hid (Calls Tryz.prog _ _ _ (RetV _ (.int .i64 x))) := HSt
        have HXb := hid (stepC_bounds HOk.out hx)
        have HNx := hid (stepsGo_some (z := z) HSk.out hx)
        clear hx
        obtain ⟨s1, s2, s3⟩ := s
        dsimp only at *
        go_wp2_with fail
        clear y0 y1 y2 x0 x1 x2
        refine HSt.out.mono ?_
        rintro e w4 ⟨rfl, hb⟩
        have HB5 := hid (HBw.out.trans (hb.mono HBw.out.size))
        have hw1 : IntKind.i64.wrap (z + x) = z + x := by have := HXb.out; rw [IntKind.wrap_i64]; have := HLk.out; omega
        clear hb HSt
        go_wp2
        go_roundw
        case rel => exact ⟨k + 1, z + x, HLk.out, by go_num, rfl, hid ⟨by rw [HG.out.1, HNx.out], by have := HXb.out; have := HG.out.2; omega, by have := HXb.out; have := HG.out.2; omega⟩, HB5.out⟩
        case measure => have := HLk.out; simp [intOf]; omega
      | none =>
        rw [hx] at HSt
        have HSt : Hid (Calls Tryz.prog _ _ _ (PanV _ 2)) := HSt
        clear hx
        obtain ⟨s1, s2, s3⟩ := s
        dsimp only at *
        go_wp2_with fail
        clear y0 y1 y2 x0 x1 x2
        refine HSt.out.mono ?_
        rintro e w4 ⟨rfl, hb⟩
        have HB5 := hid (HBw.out.trans (hb.mono HBw.out.size))
        clear hb HSt
        go_wp2
        exact ⟨rfl, rfl, HB5.out⟩
    · obtain rfl : k = l.length := by omega
      have hq := HG.out.1
      rw [HO.out, List.drop_eq_nil_of_le (Nat.le_refl _)] at hq
      cases hq
set_option maxRecDepth 100000 in
theorem prplan1_bad (W : World) (M : Nat) (q0 q1 q2 : Nat) (a : Option Addr) (cl : Nat) (l : List Sq) (ad : Option Addr) (c : Nat) (bs : List UInt8) (hpd : PdAt W a cl l ad c bs)  (hp : plitsO bs l = false)
    (hb0 : Blk W q0 [.pointer (some ⟨M, 0, none⟩)] 28) (hb1 : Blk W q1 [.slice ad bs.length c] 22) (hb2 : Blk W q2 [.slice a l.length cl] 38) :
    Calls Tryz.prog 45 #[.pointer (some ⟨q0, 0, none⟩), .pointer (some ⟨q1, 0, none⟩), .pointer (some ⟨q2, 0, none⟩)] W (PanV W 15) := by
  have HB0 := hid hb0
  have HB1 := hid hb1
  have HB2 := hid hb2
  have HLi := hid (fun W' (hb : Below W.heap.size W W') => prliterals_bad W' a cl l ad c bs (hpd.low hb) hp)
  clear hpd hb0 hb1 hb2 hp
  go_enter Tryz.func45, Tryz.ntmps45
  go_upto_region 1 with fail
  have hb3 := Below.refl W.heap.size W
  refine wp_region_held_drew (S := fun W' => Below W.heap.size W W') (by kernel_rfl) hb3.drew (fun hHeld => ?_)
  refine wpAnyH_take (i := 0) (v := .pointer (some ⟨M, 0, none⟩)) (by simp only [List.getElem?_toArray, List.getElem?_cons_zero]; rfl) (by kernel_rfl) (by kernel_rfl) (by kernel_rfl) (fun _ _ _ h => bp_put h) (Or.inl ⟨by rfl, fun W hSw => ?_⟩) (by assumption) ?_
  · have hcw := (hSw.cell (p := ⟨q0, 0, none⟩) HB0.out.lt).trans (HB0.out.cell (k := 0) rfl)
    go_simp
  simp only [Act.put, List.setIfInBounds_toArray, List.set_cons_zero, List.set_cons_succ]
  refine wpAnyH_take (i := 1) (v := .slice ad bs.length c) (by simp only [List.getElem?_toArray, List.getElem?_cons_zero, List.getElem?_cons_succ]; rfl) (by kernel_rfl) (by kernel_rfl) (by kernel_rfl) (fun _ _ _ h => bp_put h) (Or.inl ⟨by rfl, fun W hSw => ?_⟩) (by assumption) ?_
  · have hcw := (hSw.cell (p := ⟨q1, 0, none⟩) HB1.out.lt).trans (HB1.out.cell (k := 0) rfl)
    go_simp
  simp only [Act.put, List.setIfInBounds_toArray, List.set_cons_zero, List.set_cons_succ]
  refine wpAnyH_take (i := 2) (v := .slice a l.length cl) (by simp only [List.getElem?_toArray, List.getElem?_cons_zero, List.getElem?_cons_succ]; rfl) (by kernel_rfl) (by kernel_rfl) (by kernel_rfl) (fun _ _ _ h => bp_put h) (Or.inl ⟨by rfl, fun W hSw => ?_⟩) (by assumption) ?_
  · have hcw := (hSw.cell (p := ⟨q2, 0, none⟩) HB2.out.lt).trans (HB2.out.cell (k := 0) rfl)
    go_simp
  simp only [Act.put, List.setIfInBounds_toArray, List.set_cons_zero, List.set_cons_succ]
  refine wpAnyH_ready (rs := [3]) (by kernel_rfl) (by simp) ?_
  refine AllReadyH.cons (by simp only [List.getElem?_toArray, List.getElem?_cons_zero, List.getElem?_cons_succ]; rfl) (fun K hK => ?_) AllReadyH.nil
  rw [if_pos (by rfl)]
  go_simp
  go_at_call 46
  refine (HLi.out _ hb3.drew).mono ?_
  rintro e w3 ⟨rfl, hb⟩
  exact ⟨rfl, rfl, hb3.drew.trans (hb.mono hb3.drew.size)⟩
def planV (C : Nat → List Int) (bs : List UInt8) (l : List Sq) : Value := if plitsO bs l = true then numV (planO C bs l) else .tuple #[.int .i64 0, .int .i64 15]
set_option maxRecDepth 100000 in
set_option maxHeartbeats 2000000 in
theorem prplan_any (w : World) (M : Nat) (C : Nat → List Int) (h : PrAt w M C) (a : Option Addr) (cl : Nat) (l : List Sq) (ad : Option Addr) (c : Nat) (bs : List UInt8) (hpd : PdAt w a cl l ad c bs) (hwf : ∀ s ∈ l, (-9223372036854775808 ≤ s.len ∧ s.len ≤ 9223372036854775807) ∧ (-9223372036854775808 ≤ s.off ∧ s.off ≤ 9223372036854775807)) :
    Calls Tryz.prog 23 #[.pointer (some ⟨M, 0, none⟩), .slice ad bs.length c, .slice a l.length cl] w (RetV w (planV C bs l)) := by
  have hW := hid (show Below w.heap.size w (((w.alloc (.cells #[.pointer (some ⟨M, 0, none⟩)] 28)).alloc (.cells #[.slice ad bs.length c] 22)).alloc (.cells #[.slice a l.length cl] 38)) from ((below_new w _).alloc (by simp) _).alloc (by simp; omega) _)
  have hx0 := hid (show Blk (((w.alloc (.cells #[.pointer (some ⟨M, 0, none⟩)] 28)).alloc (.cells #[.slice ad bs.length c] 22)).alloc (.cells #[.slice a l.length cl] 38)) (w.heap.size) [.pointer (some ⟨M, 0, none⟩)] 28 from ((Blk.newAt rfl).alloc _).alloc _)
  have hx1 := hid (show Blk (((w.alloc (.cells #[.pointer (some ⟨M, 0, none⟩)] 28)).alloc (.cells #[.slice ad bs.length c] 22)).alloc (.cells #[.slice a l.length cl] 38)) (w.heap.size + 1) [.slice ad bs.length c] 22 from (Blk.newAt (by simp)).alloc _)
  have hx2 := hid (show Blk (((w.alloc (.cells #[.pointer (some ⟨M, 0, none⟩)] 28)).alloc (.cells #[.slice ad bs.length c] 22)).alloc (.cells #[.slice a l.length cl] 38)) (w.heap.size + 1 + 1) [.slice a l.length cl] 38 from Blk.newAt (by simp))
  have h1 := h.low hW.out
  have hd1 := hpd.low hW.out
  have c0 := hx0.out.cell (k := 0) rfl
  have HH := hid h1
  unfold planV
  cases hp : plitsO bs l with
  | false =>
    have HT := hid (prtold_err _ M C 45 #[.pointer (some ⟨w.heap.size, 0, none⟩), .pointer (some ⟨w.heap.size + 1, 0, none⟩), .pointer (some ⟨w.heap.size + 1 + 1, 0, none⟩)] (fun _ _ => by kernel_rfl) _ (Nat.le_refl _) (fun _ => True) (LowT.true _) 15 (fun W hb => (prplan1_bad W M _ _ _ a cl l ad c bs (hd1.low hb) hp (hx0.out.below hb hx0.out.lt) (hx1.out.below hb hx1.out.lt) (hx2.out.below hb hx2.out.lt)).mono (fun _ _ h => ⟨h.1, Mod.of_below h.2, trivial⟩)) h1)
    clear h h1 hp hd1 hpd hwf
    rw [if_neg (by decide)]
    go_enter Tryz.func23, Tryz.ntmps23
    go_wp2_with fail
    clear c0
    refine (HT.out.mono fun _ _ h => h.low).mono ?_
    rintro e w2 ⟨rfl, hb⟩
    have HB := hid (hW.out.trans (hb.mono hW.out.size))
    clear hb
    have c0 := HB.out
    go_wp2
    go_ret2
    exact ⟨rfl, HB.out⟩
  | true =>
    rw [if_pos rfl]
    cases ho : planO C bs l with
    | some x =>
      have HT := hid (prtold_ok _ M C 45 #[.pointer (some ⟨w.heap.size, 0, none⟩), .pointer (some ⟨w.heap.size + 1, 0, none⟩), .pointer (some ⟨w.heap.size + 1 + 1, 0, none⟩)] (fun _ _ => by kernel_rfl) _ (Nat.le_refl _) (fun _ => True) (LowT.true _) x (fun W hb => (prplan1_ok W M C (h1.low hb) _ _ _ a cl l ad c bs (hd1.low hb) hwf hp x ho (hx0.out.below hb hx0.out.lt) (hx1.out.below hb hx1.out.lt) (hx2.out.below hb hx2.out.lt)).mono (fun _ _ h => ⟨h.1, Mod.of_below h.2, trivial⟩)) h1)
      clear h h1 hp hd1 hpd hwf ho
      show Calls Tryz.prog _ _ w (RetV w (.tuple #[.int .i64 x, .int .i64 0]))
      go_enter Tryz.func23, Tryz.ntmps23
      go_wp2_with fail
      clear c0
      refine (HT.out.mono fun _ _ h => h.low).mono ?_
      rintro e w2 ⟨rfl, hb⟩
      have HB := hid (hW.out.trans (hb.mono hW.out.size))
      clear hb
      have c0 := HB.out
      go_wp2
      go_ret2
      exact ⟨rfl, HB.out⟩
    | none =>
      have HT := hid (prtold_err _ M C 45 #[.pointer (some ⟨w.heap.size, 0, none⟩), .pointer (some ⟨w.heap.size + 1, 0, none⟩), .pointer (some ⟨w.heap.size + 1 + 1, 0, none⟩)] (fun _ _ => by kernel_rfl) _ (Nat.le_refl _) (fun _ => True) (LowT.true _) 2 (fun W hb => (prplan1_err W M C (h1.low hb) _ _ _ a cl l ad c bs (hd1.low hb) hwf hp ho (hx0.out.below hb hx0.out.lt) (hx1.out.below hb hx1.out.lt) (hx2.out.below hb hx2.out.lt)).mono (fun _ _ h => ⟨h.1, Mod.of_below h.2, trivial⟩)) h1)
      clear h h1 hp hd1 hpd hwf ho
      show Calls Tryz.prog _ _ w (RetV w (.tuple #[.int .i64 0, .int .i64 2]))
      go_enter Tryz.func23, Tryz.ntmps23
      go_wp2_with fail
      clear c0
      refine (HT.out.mono fun _ _ h => h.low).mono ?_
      rintro e w2 ⟨rfl, hb⟩
      have HB := hid (hW.out.trans (hb.mono hW.out.size))
      clear hb
      have c0 := HB.out
      go_wp2
      go_ret2
      exact ⟨rfl, HB.out⟩
end Go.Proofs.YtiagbejfghincaaGreat
