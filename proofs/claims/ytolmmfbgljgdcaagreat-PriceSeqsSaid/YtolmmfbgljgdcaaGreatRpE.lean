/-
  The walks of layer 32 (price): the cost of the codes of a sequence.
-/
import Derived.Test.YtolmmfbgljgdcaaGreatRpD
import Derived.Test.YtolmmfbgljgdcaaGreatRpB
import Derived.Test.YtolmmfbgljgdcaaGreatPrX
namespace Go.Proofs.YtolmmfbgljgdcaaGreat
open Go.RowKit Go.Port

/-- The cost of the codes of a sequence, and the repeated offsets behind it. -/
def seqO (C : Nat → List Int) (r0 r1 r2 lit len off : Int) : Option Int := match numC C 1 lit, numC C 2 (valF r0 r1 r2 lit off), lenC C len with
  | some a, some b, some c => some (a + b + c)
  | _, _, _ => none
def seqOk (r0 r1 r2 lit off : Int) : Bool := rRight r0 r1 r2 && decide (0 ≤ lit) && winOk off
def seqV (C : Nat → List Int) (r0 r1 r2 lit len off : Int) : Value := if seqOk r0 r1 r2 lit off = true then (match seqO C r0 r1 r2 lit len off with
    | some x => .tuple #[.int .i64 x, nxtV (nextF r0 r1 r2 (toldF r0 r1 r2 lit (valF r0 r1 r2 lit off))), .int .i64 0]
    | none => .tuple #[.int .i64 0, .agg #[.int .i64 0, .int .i64 0, .int .i64 0], .int .i64 2]) else .tuple #[.int .i64 0, .agg #[.int .i64 0, .int .i64 0, .int .i64 0], .int .i64 2]
theorem seqOk_true {r0 r1 r2 lit off : Int} (h : seqOk r0 r1 r2 lit off = true) : rRight r0 r1 r2 = true ∧ 0 ≤ lit ∧ winOk off = true := by
  unfold seqOk at h
  simp only [Bool.and_eq_true, decide_eq_true_eq] at h
  exact ⟨h.1.1, h.1.2, h.2⟩
theorem seqOk_false {r0 r1 r2 lit off : Int} (h : seqOk r0 r1 r2 lit off = false) : ¬ (rRight r0 r1 r2 = true ∧ 0 ≤ lit ∧ winOk off = true) := by
  rintro ⟨h1, h2, h3⟩
  unfold seqOk at h
  rw [h1, h3] at h
  simp only [Bool.true_and, Bool.and_true, decide_eq_false_iff_not] at h
  exact h h2
theorem lenC_bounds {C : Nat → List Int} (h : ∀ k, k < 4 → HistOk k (C k)) {n x : Int} (e : lenC C n = some x) : -16384 ≤ x ∧ x ≤ 32768 := by
  unfold lenC at e
  split at e
  · cases e
  · exact numC_bounds (by decide) (h 3 (by decide)) e
theorem pr_set3 {w : World} {M : Nat} {C : Nat → List Int} (h : PrAt w M C) {b : Nat} {vs : List Value} (hb : Blk w b vs 40) (u0 u1 u2 : Value) : PrAt (((w.setCell ⟨b, 0, none⟩ u0).setCell ⟨b, 1, none⟩ u1).setCell ⟨b, 2, none⟩ u2) M C :=
  ((h.other hb (by decide) (by decide) (by decide) u0).other (hb.set 0 u0) (by decide) (by decide) (by decide) u1).other ((hb.set 0 u0).set 1 u1) (by decide) (by decide) (by decide) u2
set_option maxRecDepth 100000 in
set_option maxHeartbeats 4000000 in
theorem prseq1_ok (r0 r1 r2 lit len off : Int) (w : World) (M : Nat) (C : Nat → List Int) (h : PrAt w M C) (qr qs qt qp : Nat) (z0 z1 z2 : Value) (hbr : Blk w qr [.int .i64 r0, .int .i64 r1, .int .i64 r2] 40) (hbs : Blk w qs [.int .i64 lit, .int .i64 len, .int .i64 off] 42) (hbt : Blk w qt [z0, z1, z2] 40) (hbp : Blk w qp [.pointer (some ⟨M, 0, none⟩)] 28) (hne : qr ≠ qt ∧ qs ≠ qt ∧ qp ≠ qt) (hlen : -9223372036854775808 ≤ len ∧ len ≤ 9223372036854775807) (hs : seqOk r0 r1 r2 lit off = true) (a b c : Int) (ha : numC C 1 lit = some a) (hb : numC C 2 (valF r0 r1 r2 lit off) = some b) (hc : lenC C len = some c) :
    Calls Tryz.prog 30 #[.pointer (some ⟨qr, 0, none⟩), .pointer (some ⟨qs, 0, none⟩), .pointer (some ⟨qt, 0, none⟩), .pointer (some ⟨qp, 0, none⟩)] w (ClR qt (qt + 1) (fun W => ∃ n0 n1 n2, nextF r0 r1 r2 (toldF r0 r1 r2 lit (valF r0 r1 r2 lit off)) = (n0, n1, n2) ∧ Blk W qt [.int .i64 n0, .int .i64 n1, .int .i64 n2] 40) w (a + b + c)) := by
  obtain ⟨hr, hl, hw⟩ := seqOk_true hs
  obtain ⟨n0, n1, n2, hn⟩ : ∃ n0 n1 n2, nextF r0 r1 r2 (toldF r0 r1 r2 lit (valF r0 r1 r2 lit off)) = (n0, n1, n2) := ⟨_, _, _, rfl⟩
  have hV := rpvalue_ok r0 r1 r2 lit len off hr hl hw w
  rw [hn] at hV
  have HVl : Hid (Calls Tryz.prog 31 #[.agg #[.int .i64 r0, .int .i64 r1, .int .i64 r2], .agg #[.int .i64 lit, .int .i64 len, .int .i64 off]] w (RetV w (.tuple #[.int .i64 (valF r0 r1 r2 lit off), .agg #[.int .i64 n0, .int .i64 n1, .int .i64 n2], .int .i64 0]))) := hid hV
  have HNx := hid hn
  clear hn
  generalize hvv : valF r0 r1 r2 lit off = v at *
  have q1 := numC_bounds (by decide) (h.ok 1 (by decide)) ha
  have q2 := numC_bounds (by decide) (h.ok 2 (by decide)) hb
  have q3 := lenC_bounds h.ok hc
  have hw1 : IntKind.i64.wrap (a + b) = a + b := by rw [IntKind.wrap_i64]; omega
  have hw2 : IntKind.i64.wrap (a + b + c) = a + b + c := by rw [IntKind.wrap_i64]; omega
  have HC1 := hid (fun W (hW : PrAt W M C) => by have h := prcount_any W M C hW lit; rw [ha] at h; exact h)
  have HC1 : Hid (∀ W, PrAt W M C → Calls Tryz.prog 33 #[.pointer (some ⟨M, 0, none⟩), .int .i64 lit] W (RetV W (.int .i64 a))) := HC1
  have HC2 := hid (fun W (hW : PrAt W M C) => by have h := proff_any W M C hW v; rw [hb] at h; exact h)
  have HC2 : Hid (∀ W, PrAt W M C → Calls Tryz.prog 34 #[.pointer (some ⟨M, 0, none⟩), .int .i64 v] W (RetV W (.int .i64 b))) := HC2
  have HC3 := hid (fun W (hW : PrAt W M C) => by have h := prlen_any W M C hW len hlen.1 hlen.2; rw [hc] at h; exact h)
  have HC3 : Hid (∀ W, PrAt W M C → Calls Tryz.prog 35 #[.pointer (some ⟨M, 0, none⟩), .int .i64 len] W (RetV W (.int .i64 c))) := HC3
  clear hr hl hw hV ha hb hc
  have HR0 := hid hbr
  have HS0 := hid hbs
  have HT0 := hid hbt
  have HP0 := hid hbp
  have HA0 := hid h
  have HNe := hid hne
  clear h hbr hbs hbt hbp hne hlen hs
  have c0 := HR0.out.cell (k := 0) rfl
  have c1 := HR0.out.cell (k := 1) rfl
  have c2 := HR0.out.cell (k := 2) rfl
  have e0 := HS0.out.cell (k := 0) rfl
  have e1 := HS0.out.cell (k := 1) rfl
  have e2 := HS0.out.cell (k := 2) rfl
  go_enter Tryz.func30, Tryz.ntmps30
  go_wp2_with fail
  clear c0 c1 c2 e0 e1 e2
  refine HVl.out.mono ?_
  rintro e w1 ⟨rfl, hb⟩
  have HS1 := hid (HS0.out.below hb HS0.out.lt)
  have HT1 := hid (HT0.out.below hb HT0.out.lt)
  have HP1 := hid (HP0.out.below hb HP0.out.lt)
  have HA1 := hid (HA0.out.low hb)
  have HM1 := hid (Mod.of_below (B := qt) (N := qt + 1) hb)
  clear hb HR0 HS0 HT0 HP0 HA0 HVl
  go_upto_region 2 with fail
  have hb := below_new w1 (.cells #[.int .i64 n0, .int .i64 n1, .int .i64 n2] 40)
  have HN2 := hid (Blk.new w1 [.int .i64 n0, .int .i64 n1, .int .i64 n2] 40)
  have HS2 := hid (HS1.out.below hb HS1.out.lt)
  have HT2 := hid (HT1.out.below hb HT1.out.lt)
  have HP2 := hid (HP1.out.below hb HP1.out.lt)
  have HA2 := hid (HA1.out.low hb)
  have HM2 := hid (HM1.out.trans (Mod.of_below hb))
  clear hb HS1 HT1 HP1 HA1 HM1
  generalize w1.alloc (.cells #[.int .i64 n0, .int .i64 n1, .int .i64 n2] 40) = w2 at *
  generalize w1.heap.size = q6 at *
  have hb := below_new w2 (.cells #[.int .i64 0] 33)
  have HE3 := hid (Blk.new w2 [.int .i64 0] 33)
  have HN3 := hid (HN2.out.below hb HN2.out.lt)
  have HS3 := hid (HS2.out.below hb HS2.out.lt)
  have HT3 := hid (HT2.out.below hb HT2.out.lt)
  have HP3 := hid (HP2.out.below hb HP2.out.lt)
  have HA3 := hid (HA2.out.low hb)
  have HM3 := hid (HM2.out.trans (Mod.of_below hb))
  clear hb HN2 HS2 HT2 HP2 HA2 HM2
  go_wp2_with fail
  generalize w2.alloc (.cells #[.int .i64 0] 33) = w3 at *
  refine (prmust_ok w2.heap.size w3 (HE3.out.cell (k := 0) rfl)).mono ?_
  rintro e w' ⟨rfl, rfl⟩
  have c0 := HN3.out.cell (k := 0) rfl
  have y0 := HT3.out.cell (k := 0) rfl
  have f0 := HT3.out.frozen 0
  have c1 := HN3.out.cell (k := 1) rfl
  have y1 := HT3.out.cell (k := 1) rfl
  have f1 := HT3.out.frozen 1
  have c2 := HN3.out.cell (k := 2) rfl
  have y2 := HT3.out.cell (k := 2) rfl
  have f2 := HT3.out.frozen 2
  go_upto_region 4 with fail
  clear c0 c1 c2 y0 y1 y2 f0 f1 f2 HE3 HN3
  have HT4 := hid (((HT3.out.set 0 (.int .i64 n0)).set 1 (.int .i64 n1)).set 2 (.int .i64 n2))
  have HS4 := hid (((HS3.out.other (a := ⟨qt, 0, none⟩) (.int .i64 n0) (Ne.symm HNe.out.2.1)).other (a := ⟨qt, 1, none⟩) (.int .i64 n1) (Ne.symm HNe.out.2.1)).other (a := ⟨qt, 2, none⟩) (.int .i64 n2) (Ne.symm HNe.out.2.1))
  have HP4 := hid (((HP3.out.other (a := ⟨qt, 0, none⟩) (.int .i64 n0) (Ne.symm HNe.out.2.2)).other (a := ⟨qt, 1, none⟩) (.int .i64 n1) (Ne.symm HNe.out.2.2)).other (a := ⟨qt, 2, none⟩) (.int .i64 n2) (Ne.symm HNe.out.2.2))
  have HM4 := hid (((HM3.out.set (a := ⟨qt, 0, none⟩) (.inl ⟨Nat.le_refl _, Nat.lt_succ_self _⟩) (.int .i64 n0)).set (a := ⟨qt, 1, none⟩) (.inl ⟨Nat.le_refl _, Nat.lt_succ_self _⟩) (.int .i64 n1)).set (a := ⟨qt, 2, none⟩) (.inl ⟨Nat.le_refl _, Nat.lt_succ_self _⟩) (.int .i64 n2))
  have HA4 := hid (pr_set3 HA3.out HT3.out (.int .i64 n0) (.int .i64 n1) (.int .i64 n2))
  clear HT3 HS3 HP3 HM3 HA3
  generalize ((w3.setCell ⟨qt, 0, none⟩ (.int .i64 n0)).setCell ⟨qt, 1, none⟩ (.int .i64 n1)).setCell ⟨qt, 2, none⟩ (.int .i64 n2) = w4 at *
  have hslt := HS4.out.lt
  have hplt := HP4.out.lt
  have hb3 := Below.refl w4.heap.size w4
  refine wp_region_noPanic ?_
  refine wp_region_held_drew (S := fun W' => Below w4.heap.size w4 W') (by kernel_rfl) hb3.drew (fun hHeld => ?_)
  refine wpAnyH_take (i := 0) (v := .pointer (some ⟨M, 0, none⟩)) (by simp only [List.getElem?_toArray, List.getElem?_cons_zero]; rfl) (by kernel_rfl) (by kernel_rfl) (by kernel_rfl) (fun _ _ _ h => h) (Or.inl ⟨by rfl, fun W hSw => ?_⟩) (by assumption) ?_
  · have hcw := (hSw.cell (p := ⟨qp, 0, none⟩) hplt).trans (HP4.out.cell (k := 0) rfl)
    go_simp
  simp only [Act.put, List.setIfInBounds_toArray, List.set_cons_zero, List.set_cons_succ]
  refine wpAnyH_take (i := 1) (v := .pointer (some ⟨qs, 0, none⟩)) (by simp only [List.getElem?_toArray, List.getElem?_cons_zero, List.getElem?_cons_succ]; rfl) (by kernel_rfl) (by kernel_rfl) (by kernel_rfl) (fun _ _ _ h => h) (Or.inl ⟨by rfl, fun W hSw => ?_⟩) (by assumption) ?_
  · clear hSw
    go_simp
  simp only [Act.put, List.setIfInBounds_toArray, List.set_cons_zero, List.set_cons_succ]
  refine wpAnyH_take (i := 2) (v := .int .i64 lit) (by simp only [List.getElem?_toArray, List.getElem?_cons_zero, List.getElem?_cons_succ]; rfl) (by kernel_rfl) (by kernel_rfl) (by kernel_rfl) (fun _ _ _ h => h) (Or.inl ⟨by rfl, fun W hSw => ?_⟩) (by assumption) ?_
  · have hcw := (hSw.cell (p := ⟨qs, 0, none⟩) hslt).trans (HS4.out.cell (k := 0) rfl)
    go_simp
  simp only [Act.put, List.setIfInBounds_toArray, List.set_cons_zero, List.set_cons_succ]
  refine wpAnyH_take (i := 4) (v := .pointer (some ⟨M, 0, none⟩)) (by simp only [List.getElem?_toArray, List.getElem?_cons_zero, List.getElem?_cons_succ]; rfl) (by kernel_rfl) (by kernel_rfl) (by kernel_rfl) (fun _ _ _ h => h) (Or.inl ⟨by rfl, fun W hSw => ?_⟩) (by assumption) ?_
  · have hcw := (hSw.cell (p := ⟨qp, 0, none⟩) hplt).trans (HP4.out.cell (k := 0) rfl)
    go_simp
  simp only [Act.put, List.setIfInBounds_toArray, List.set_cons_zero, List.set_cons_succ]
  refine wpAnyH_take (i := 5) (v := .int .i64 v) (by simp only [List.getElem?_toArray, List.getElem?_cons_zero, List.getElem?_cons_succ]; rfl) (by kernel_rfl) (by kernel_rfl) (by kernel_rfl) (fun _ _ _ h => h) (Or.inl ⟨by rfl, fun W hSw => ?_⟩) (by assumption) ?_
  · clear hSw
    go_simp
  simp only [Act.put, List.setIfInBounds_toArray, List.set_cons_zero, List.set_cons_succ]
  refine wpAnyH_take (i := 8) (v := .pointer (some ⟨M, 0, none⟩)) (by simp only [List.getElem?_toArray, List.getElem?_cons_zero, List.getElem?_cons_succ]; rfl) (by kernel_rfl) (by kernel_rfl) (by kernel_rfl) (fun _ _ _ h => h) (Or.inl ⟨by rfl, fun W hSw => ?_⟩) (by assumption) ?_
  · have hcw := (hSw.cell (p := ⟨qp, 0, none⟩) hplt).trans (HP4.out.cell (k := 0) rfl)
    go_simp
  simp only [Act.put, List.setIfInBounds_toArray, List.set_cons_zero, List.set_cons_succ]
  refine wpAnyH_take (i := 9) (v := .pointer (some ⟨qs, 1, none⟩)) (by simp only [List.getElem?_toArray, List.getElem?_cons_zero, List.getElem?_cons_succ]; rfl) (by kernel_rfl) (by kernel_rfl) (by kernel_rfl) (fun _ _ _ h => h) (Or.inl ⟨by rfl, fun W hSw => ?_⟩) (by assumption) ?_
  · clear hSw
    go_simp
  simp only [Act.put, List.setIfInBounds_toArray, List.set_cons_zero, List.set_cons_succ]
  refine wpAnyH_take (i := 10) (v := .int .i64 len) (by simp only [List.getElem?_toArray, List.getElem?_cons_zero, List.getElem?_cons_succ]; rfl) (by kernel_rfl) (by kernel_rfl) (by kernel_rfl) (fun _ _ _ h => h) (Or.inl ⟨by rfl, fun W hSw => ?_⟩) (by assumption) ?_
  · have hcw := (hSw.cell (p := ⟨qs, 1, none⟩) hslt).trans (HS4.out.cell (k := 1) rfl)
    go_simp
  simp only [Act.put, List.setIfInBounds_toArray, List.set_cons_zero, List.set_cons_succ]
  refine wpAnyH_ready (rs := [3]) (by kernel_rfl) (by simp) ?_
  refine AllReadyH.cons (by simp only [List.getElem?_toArray, List.getElem?_cons_zero, List.getElem?_cons_succ]; rfl) (fun K hK => ?_) AllReadyH.nil
  rw [if_pos (by rfl)]
  go_simp
  go_at_call 33
  refine (HC1.out _ (HA4.out.low hb3.drew)).mono ?_
  rintro e w5 ⟨rfl, hb⟩
  have hbw5 := hb3.drew.trans (hb.mono hb3.drew.size)
  dsimp only
  refine hK.out _ _ hbw5 (fun _ => ?_)
  clear hK K hb
  refine wpAnyH_ready (rs := [6]) (by kernel_rfl) (by simp) ?_
  refine AllReadyH.cons (by simp only [List.getElem?_toArray, List.getElem?_cons_zero, List.getElem?_cons_succ]; rfl) (fun K hK => ?_) AllReadyH.nil
  rw [if_pos (by rfl)]
  go_simp
  go_at_call 34
  refine (HC2.out _ (HA4.out.low hbw5)).mono ?_
  rintro e w6 ⟨rfl, hb⟩
  have hbw6 := hbw5.trans (hb.mono hbw5.size)
  dsimp only
  refine hK.out _ _ hbw6 (fun _ => ?_)
  clear hK K hb
  refine wpAnyH_take (i := 7) (v := .int .i64 (a + b)) (by simp only [List.getElem?_toArray, List.getElem?_cons_zero, List.getElem?_cons_succ]; rfl) (by kernel_rfl) (by kernel_rfl) (by kernel_rfl) (fun _ _ _ h => h) (Or.inl ⟨by rfl, fun W hSw => ?_⟩) (by assumption) ?_
  · clear hSw
    go_simp
  simp only [Act.put, List.setIfInBounds_toArray, List.set_cons_zero, List.set_cons_succ]
  refine wpAnyH_ready (rs := [11]) (by kernel_rfl) (by simp) ?_
  refine AllReadyH.cons (by simp only [List.getElem?_toArray, List.getElem?_cons_zero, List.getElem?_cons_succ]; rfl) (fun K hK => ?_) AllReadyH.nil
  rw [if_pos (by rfl)]
  go_simp
  go_at_call 35
  refine (HC3.out _ (HA4.out.low hbw6)).mono ?_
  rintro e w7 ⟨rfl, hb⟩
  have hbw7 := hbw6.trans (hb.mono hbw6.size)
  dsimp only
  refine hK.out _ _ hbw7 (fun _ => ?_)
  clear hK K hb
  refine wpAnyH_take (i := 12) (v := .int .i64 (a + b + c)) (by simp only [List.getElem?_toArray, List.getElem?_cons_zero, List.getElem?_cons_succ]; rfl) (by kernel_rfl) (by kernel_rfl) (by kernel_rfl) (fun _ _ _ h => h) (Or.inl ⟨by rfl, fun W hSw => ?_⟩) (by assumption) ?_
  · clear hSw
    go_simp
  simp only [Act.put, List.setIfInBounds_toArray, List.set_cons_zero, List.set_cons_succ]
  refine wpAnyH_ready (rs := [13]) (by kernel_rfl) (by simp) ?_
  refine AllReadyH.cons (by simp only [List.getElem?_toArray, List.getElem?_cons_zero, List.getElem?_cons_succ]; rfl) (fun K hK => ?_) AllReadyH.nil
  rw [if_pos (by rfl)]
  go_simp
  refine hK.out _ _ hbw7 (fun _ => ?_)
  clear hK K
  refine wpAnyH_done (by kernel_rfl) ?_ _
  refine NoPanic.normal ?_
  go_wp2
  go_ret
  exact ⟨rfl, HM4.out.trans (Mod.of_below hbw7), _, _, _, HNx.out, HT4.out.below hbw7 HT4.out.lt⟩
set_option maxRecDepth 100000 in
set_option maxHeartbeats 4000000 in
theorem prseq1_e1 (r0 r1 r2 lit len off : Int) (w : World) (M : Nat) (C : Nat → List Int) (h : PrAt w M C) (qr qs qt qp : Nat) (z0 z1 z2 : Value) (hbr : Blk w qr [.int .i64 r0, .int .i64 r1, .int .i64 r2] 40) (hbs : Blk w qs [.int .i64 lit, .int .i64 len, .int .i64 off] 42) (hbt : Blk w qt [z0, z1, z2] 40) (hbp : Blk w qp [.pointer (some ⟨M, 0, none⟩)] 28) (hne : qr ≠ qt ∧ qs ≠ qt ∧ qp ≠ qt) (hlen : -9223372036854775808 ≤ len ∧ len ≤ 9223372036854775807) (hs : seqOk r0 r1 r2 lit off = true) (ha : numC C 1 lit = none) :
    Calls Tryz.prog 30 #[.pointer (some ⟨qr, 0, none⟩), .pointer (some ⟨qs, 0, none⟩), .pointer (some ⟨qt, 0, none⟩), .pointer (some ⟨qp, 0, none⟩)] w (ClP qt (qt + 1) (fun W => ∃ x y z, Blk W qt [x, y, z] 40) w 2) := by
  obtain ⟨hr, hl, hw⟩ := seqOk_true hs
  obtain ⟨n0, n1, n2, hn⟩ : ∃ n0 n1 n2, nextF r0 r1 r2 (toldF r0 r1 r2 lit (valF r0 r1 r2 lit off)) = (n0, n1, n2) := ⟨_, _, _, rfl⟩
  have hV := rpvalue_ok r0 r1 r2 lit len off hr hl hw w
  rw [hn] at hV
  have HVl : Hid (Calls Tryz.prog 31 #[.agg #[.int .i64 r0, .int .i64 r1, .int .i64 r2], .agg #[.int .i64 lit, .int .i64 len, .int .i64 off]] w (RetV w (.tuple #[.int .i64 (valF r0 r1 r2 lit off), .agg #[.int .i64 n0, .int .i64 n1, .int .i64 n2], .int .i64 0]))) := hid hV
  have HNx := hid hn
  clear hn
  generalize hvv : valF r0 r1 r2 lit off = v at *
  have HC1 := hid (fun W (hW : PrAt W M C) => by have h := prcount_any W M C hW lit; rw [ha] at h; exact h)
  have HC1 : Hid (∀ W, PrAt W M C → Calls Tryz.prog 33 #[.pointer (some ⟨M, 0, none⟩), .int .i64 lit] W (PanV W 2)) := HC1
  have hlen9 := hlen.1
  clear hr hl hw hV ha
  have HR0 := hid hbr
  have HS0 := hid hbs
  have HT0 := hid hbt
  have HP0 := hid hbp
  have HA0 := hid h
  have HNe := hid hne
  clear h hbr hbs hbt hbp hne hlen hs
  have c0 := HR0.out.cell (k := 0) rfl
  have c1 := HR0.out.cell (k := 1) rfl
  have c2 := HR0.out.cell (k := 2) rfl
  have e0 := HS0.out.cell (k := 0) rfl
  have e1 := HS0.out.cell (k := 1) rfl
  have e2 := HS0.out.cell (k := 2) rfl
  go_enter Tryz.func30, Tryz.ntmps30
  go_wp2_with fail
  clear c0 c1 c2 e0 e1 e2
  refine HVl.out.mono ?_
  rintro e w1 ⟨rfl, hb⟩
  have HS1 := hid (HS0.out.below hb HS0.out.lt)
  have HT1 := hid (HT0.out.below hb HT0.out.lt)
  have HP1 := hid (HP0.out.below hb HP0.out.lt)
  have HA1 := hid (HA0.out.low hb)
  have HM1 := hid (Mod.of_below (B := qt) (N := qt + 1) hb)
  clear hb HR0 HS0 HT0 HP0 HA0 HVl
  go_upto_region 2 with fail
  have hb := below_new w1 (.cells #[.int .i64 n0, .int .i64 n1, .int .i64 n2] 40)
  have HN2 := hid (Blk.new w1 [.int .i64 n0, .int .i64 n1, .int .i64 n2] 40)
  have HS2 := hid (HS1.out.below hb HS1.out.lt)
  have HT2 := hid (HT1.out.below hb HT1.out.lt)
  have HP2 := hid (HP1.out.below hb HP1.out.lt)
  have HA2 := hid (HA1.out.low hb)
  have HM2 := hid (HM1.out.trans (Mod.of_below hb))
  clear hb HS1 HT1 HP1 HA1 HM1
  generalize w1.alloc (.cells #[.int .i64 n0, .int .i64 n1, .int .i64 n2] 40) = w2 at *
  generalize w1.heap.size = q6 at *
  have hb := below_new w2 (.cells #[.int .i64 0] 33)
  have HE3 := hid (Blk.new w2 [.int .i64 0] 33)
  have HN3 := hid (HN2.out.below hb HN2.out.lt)
  have HS3 := hid (HS2.out.below hb HS2.out.lt)
  have HT3 := hid (HT2.out.below hb HT2.out.lt)
  have HP3 := hid (HP2.out.below hb HP2.out.lt)
  have HA3 := hid (HA2.out.low hb)
  have HM3 := hid (HM2.out.trans (Mod.of_below hb))
  clear hb HN2 HS2 HT2 HP2 HA2 HM2
  go_wp2_with fail
  generalize w2.alloc (.cells #[.int .i64 0] 33) = w3 at *
  refine (prmust_ok w2.heap.size w3 (HE3.out.cell (k := 0) rfl)).mono ?_
  rintro e w' ⟨rfl, rfl⟩
  have c0 := HN3.out.cell (k := 0) rfl
  have y0 := HT3.out.cell (k := 0) rfl
  have f0 := HT3.out.frozen 0
  have c1 := HN3.out.cell (k := 1) rfl
  have y1 := HT3.out.cell (k := 1) rfl
  have f1 := HT3.out.frozen 1
  have c2 := HN3.out.cell (k := 2) rfl
  have y2 := HT3.out.cell (k := 2) rfl
  have f2 := HT3.out.frozen 2
  go_upto_region 4 with fail
  clear c0 c1 c2 y0 y1 y2 f0 f1 f2 HE3 HN3
  have HT4 := hid (((HT3.out.set 0 (.int .i64 n0)).set 1 (.int .i64 n1)).set 2 (.int .i64 n2))
  have HS4 := hid (((HS3.out.other (a := ⟨qt, 0, none⟩) (.int .i64 n0) (Ne.symm HNe.out.2.1)).other (a := ⟨qt, 1, none⟩) (.int .i64 n1) (Ne.symm HNe.out.2.1)).other (a := ⟨qt, 2, none⟩) (.int .i64 n2) (Ne.symm HNe.out.2.1))
  have HP4 := hid (((HP3.out.other (a := ⟨qt, 0, none⟩) (.int .i64 n0) (Ne.symm HNe.out.2.2)).other (a := ⟨qt, 1, none⟩) (.int .i64 n1) (Ne.symm HNe.out.2.2)).other (a := ⟨qt, 2, none⟩) (.int .i64 n2) (Ne.symm HNe.out.2.2))
  have HM4 := hid (((HM3.out.set (a := ⟨qt, 0, none⟩) (.inl ⟨Nat.le_refl _, Nat.lt_succ_self _⟩) (.int .i64 n0)).set (a := ⟨qt, 1, none⟩) (.inl ⟨Nat.le_refl _, Nat.lt_succ_self _⟩) (.int .i64 n1)).set (a := ⟨qt, 2, none⟩) (.inl ⟨Nat.le_refl _, Nat.lt_succ_self _⟩) (.int .i64 n2))
  have HA4 := hid (pr_set3 HA3.out HT3.out (.int .i64 n0) (.int .i64 n1) (.int .i64 n2))
  clear HT3 HS3 HP3 HM3 HA3
  generalize ((w3.setCell ⟨qt, 0, none⟩ (.int .i64 n0)).setCell ⟨qt, 1, none⟩ (.int .i64 n1)).setCell ⟨qt, 2, none⟩ (.int .i64 n2) = w4 at *
  have hslt := HS4.out.lt
  have hplt := HP4.out.lt
  have hb3 := Below.refl w4.heap.size w4
  refine wp_region_held_drew (S := fun W' => Below w4.heap.size w4 W') (by kernel_rfl) hb3.drew (fun hHeld => ?_)
  refine wpAnyH_take (i := 0) (v := .pointer (some ⟨M, 0, none⟩)) (by simp only [List.getElem?_toArray, List.getElem?_cons_zero]; rfl) (by kernel_rfl) (by kernel_rfl) (by kernel_rfl) (fun _ _ _ h => bp_put h) (Or.inl ⟨by rfl, fun W hSw => ?_⟩) (by assumption) ?_
  · have hcw := (hSw.cell (p := ⟨qp, 0, none⟩) hplt).trans (HP4.out.cell (k := 0) rfl)
    go_simp
  simp only [Act.put, List.setIfInBounds_toArray, List.set_cons_zero, List.set_cons_succ]
  refine wpAnyH_take (i := 1) (v := .pointer (some ⟨qs, 0, none⟩)) (by simp only [List.getElem?_toArray, List.getElem?_cons_zero, List.getElem?_cons_succ]; rfl) (by kernel_rfl) (by kernel_rfl) (by kernel_rfl) (fun _ _ _ h => bp_put h) (Or.inl ⟨by rfl, fun W hSw => ?_⟩) (by assumption) ?_
  · clear hSw
    go_simp
  simp only [Act.put, List.setIfInBounds_toArray, List.set_cons_zero, List.set_cons_succ]
  refine wpAnyH_take (i := 2) (v := .int .i64 lit) (by simp only [List.getElem?_toArray, List.getElem?_cons_zero, List.getElem?_cons_succ]; rfl) (by kernel_rfl) (by kernel_rfl) (by kernel_rfl) (fun _ _ _ h => bp_put h) (Or.inl ⟨by rfl, fun W hSw => ?_⟩) (by assumption) ?_
  · have hcw := (hSw.cell (p := ⟨qs, 0, none⟩) hslt).trans (HS4.out.cell (k := 0) rfl)
    go_simp
  simp only [Act.put, List.setIfInBounds_toArray, List.set_cons_zero, List.set_cons_succ]
  refine wpAnyH_take (i := 4) (v := .pointer (some ⟨M, 0, none⟩)) (by simp only [List.getElem?_toArray, List.getElem?_cons_zero, List.getElem?_cons_succ]; rfl) (by kernel_rfl) (by kernel_rfl) (by kernel_rfl) (fun _ _ _ h => bp_put h) (Or.inl ⟨by rfl, fun W hSw => ?_⟩) (by assumption) ?_
  · have hcw := (hSw.cell (p := ⟨qp, 0, none⟩) hplt).trans (HP4.out.cell (k := 0) rfl)
    go_simp
  simp only [Act.put, List.setIfInBounds_toArray, List.set_cons_zero, List.set_cons_succ]
  refine wpAnyH_take (i := 5) (v := .int .i64 v) (by simp only [List.getElem?_toArray, List.getElem?_cons_zero, List.getElem?_cons_succ]; rfl) (by kernel_rfl) (by kernel_rfl) (by kernel_rfl) (fun _ _ _ h => bp_put h) (Or.inl ⟨by rfl, fun W hSw => ?_⟩) (by assumption) ?_
  · clear hSw
    go_simp
  simp only [Act.put, List.setIfInBounds_toArray, List.set_cons_zero, List.set_cons_succ]
  refine wpAnyH_take (i := 8) (v := .pointer (some ⟨M, 0, none⟩)) (by simp only [List.getElem?_toArray, List.getElem?_cons_zero, List.getElem?_cons_succ]; rfl) (by kernel_rfl) (by kernel_rfl) (by kernel_rfl) (fun _ _ _ h => bp_put h) (Or.inl ⟨by rfl, fun W hSw => ?_⟩) (by assumption) ?_
  · have hcw := (hSw.cell (p := ⟨qp, 0, none⟩) hplt).trans (HP4.out.cell (k := 0) rfl)
    go_simp
  simp only [Act.put, List.setIfInBounds_toArray, List.set_cons_zero, List.set_cons_succ]
  refine wpAnyH_take (i := 9) (v := .pointer (some ⟨qs, 1, none⟩)) (by simp only [List.getElem?_toArray, List.getElem?_cons_zero, List.getElem?_cons_succ]; rfl) (by kernel_rfl) (by kernel_rfl) (by kernel_rfl) (fun _ _ _ h => bp_put h) (Or.inl ⟨by rfl, fun W hSw => ?_⟩) (by assumption) ?_
  · clear hSw
    go_simp
  simp only [Act.put, List.setIfInBounds_toArray, List.set_cons_zero, List.set_cons_succ]
  refine wpAnyH_take (i := 10) (v := .int .i64 len) (by simp only [List.getElem?_toArray, List.getElem?_cons_zero, List.getElem?_cons_succ]; rfl) (by kernel_rfl) (by kernel_rfl) (by kernel_rfl) (fun _ _ _ h => bp_put h) (Or.inl ⟨by rfl, fun W hSw => ?_⟩) (by assumption) ?_
  · have hcw := (hSw.cell (p := ⟨qs, 1, none⟩) hslt).trans (HS4.out.cell (k := 1) rfl)
    go_simp
  simp only [Act.put, List.setIfInBounds_toArray, List.set_cons_zero, List.set_cons_succ]
  refine wpAnyH_ready (rs := [3]) (by kernel_rfl) (by simp) ?_
  refine AllReadyH.cons (by simp only [List.getElem?_toArray, List.getElem?_cons_zero, List.getElem?_cons_succ]; rfl) (fun K hK => ?_) AllReadyH.nil
  rw [if_pos (by rfl)]
  go_simp
  go_at_call 33
  refine (HC1.out _ (HA4.out.low hb3.drew)).mono ?_
  rintro e w9 ⟨rfl, hb⟩
  have hb9 := hb3.drew.trans (hb.mono hb3.drew.size)
  exact ⟨rfl, rfl, HM4.out.trans (Mod.of_below hb9), _, _, _, HT4.out.below hb9 HT4.out.lt⟩
set_option maxRecDepth 100000 in
set_option maxHeartbeats 4000000 in
theorem prseq1_e2 (r0 r1 r2 lit len off : Int) (w : World) (M : Nat) (C : Nat → List Int) (h : PrAt w M C) (qr qs qt qp : Nat) (z0 z1 z2 : Value) (hbr : Blk w qr [.int .i64 r0, .int .i64 r1, .int .i64 r2] 40) (hbs : Blk w qs [.int .i64 lit, .int .i64 len, .int .i64 off] 42) (hbt : Blk w qt [z0, z1, z2] 40) (hbp : Blk w qp [.pointer (some ⟨M, 0, none⟩)] 28) (hne : qr ≠ qt ∧ qs ≠ qt ∧ qp ≠ qt) (hlen : -9223372036854775808 ≤ len ∧ len ≤ 9223372036854775807) (hs : seqOk r0 r1 r2 lit off = true) (a : Int) (ha : numC C 1 lit = some a) (hb : numC C 2 (valF r0 r1 r2 lit off) = none) :
    Calls Tryz.prog 30 #[.pointer (some ⟨qr, 0, none⟩), .pointer (some ⟨qs, 0, none⟩), .pointer (some ⟨qt, 0, none⟩), .pointer (some ⟨qp, 0, none⟩)] w (ClP qt (qt + 1) (fun W => ∃ x y z, Blk W qt [x, y, z] 40) w 2) := by
  obtain ⟨hr, hl, hw⟩ := seqOk_true hs
  obtain ⟨n0, n1, n2, hn⟩ : ∃ n0 n1 n2, nextF r0 r1 r2 (toldF r0 r1 r2 lit (valF r0 r1 r2 lit off)) = (n0, n1, n2) := ⟨_, _, _, rfl⟩
  have hV := rpvalue_ok r0 r1 r2 lit len off hr hl hw w
  rw [hn] at hV
  have HVl : Hid (Calls Tryz.prog 31 #[.agg #[.int .i64 r0, .int .i64 r1, .int .i64 r2], .agg #[.int .i64 lit, .int .i64 len, .int .i64 off]] w (RetV w (.tuple #[.int .i64 (valF r0 r1 r2 lit off), .agg #[.int .i64 n0, .int .i64 n1, .int .i64 n2], .int .i64 0]))) := hid hV
  have HNx := hid hn
  clear hn
  generalize hvv : valF r0 r1 r2 lit off = v at *
  have HC1 := hid (fun W (hW : PrAt W M C) => by have h := prcount_any W M C hW lit; rw [ha] at h; exact h)
  have HC1 : Hid (∀ W, PrAt W M C → Calls Tryz.prog 33 #[.pointer (some ⟨M, 0, none⟩), .int .i64 lit] W (RetV W (.int .i64 a))) := HC1
  have HC2 := hid (fun W (hW : PrAt W M C) => by have h := proff_any W M C hW v; rw [hb] at h; exact h)
  have HC2 : Hid (∀ W, PrAt W M C → Calls Tryz.prog 34 #[.pointer (some ⟨M, 0, none⟩), .int .i64 v] W (PanV W 2)) := HC2
  have hlen9 := hlen.1
  clear hr hl hw hV ha hb
  have HR0 := hid hbr
  have HS0 := hid hbs
  have HT0 := hid hbt
  have HP0 := hid hbp
  have HA0 := hid h
  have HNe := hid hne
  clear h hbr hbs hbt hbp hne hlen hs
  have c0 := HR0.out.cell (k := 0) rfl
  have c1 := HR0.out.cell (k := 1) rfl
  have c2 := HR0.out.cell (k := 2) rfl
  have e0 := HS0.out.cell (k := 0) rfl
  have e1 := HS0.out.cell (k := 1) rfl
  have e2 := HS0.out.cell (k := 2) rfl
  go_enter Tryz.func30, Tryz.ntmps30
  go_wp2_with fail
  clear c0 c1 c2 e0 e1 e2
  refine HVl.out.mono ?_
  rintro e w1 ⟨rfl, hb⟩
  have HS1 := hid (HS0.out.below hb HS0.out.lt)
  have HT1 := hid (HT0.out.below hb HT0.out.lt)
  have HP1 := hid (HP0.out.below hb HP0.out.lt)
  have HA1 := hid (HA0.out.low hb)
  have HM1 := hid (Mod.of_below (B := qt) (N := qt + 1) hb)
  clear hb HR0 HS0 HT0 HP0 HA0 HVl
  go_upto_region 2 with fail
  have hb := below_new w1 (.cells #[.int .i64 n0, .int .i64 n1, .int .i64 n2] 40)
  have HN2 := hid (Blk.new w1 [.int .i64 n0, .int .i64 n1, .int .i64 n2] 40)
  have HS2 := hid (HS1.out.below hb HS1.out.lt)
  have HT2 := hid (HT1.out.below hb HT1.out.lt)
  have HP2 := hid (HP1.out.below hb HP1.out.lt)
  have HA2 := hid (HA1.out.low hb)
  have HM2 := hid (HM1.out.trans (Mod.of_below hb))
  clear hb HS1 HT1 HP1 HA1 HM1
  generalize w1.alloc (.cells #[.int .i64 n0, .int .i64 n1, .int .i64 n2] 40) = w2 at *
  generalize w1.heap.size = q6 at *
  have hb := below_new w2 (.cells #[.int .i64 0] 33)
  have HE3 := hid (Blk.new w2 [.int .i64 0] 33)
  have HN3 := hid (HN2.out.below hb HN2.out.lt)
  have HS3 := hid (HS2.out.below hb HS2.out.lt)
  have HT3 := hid (HT2.out.below hb HT2.out.lt)
  have HP3 := hid (HP2.out.below hb HP2.out.lt)
  have HA3 := hid (HA2.out.low hb)
  have HM3 := hid (HM2.out.trans (Mod.of_below hb))
  clear hb HN2 HS2 HT2 HP2 HA2 HM2
  go_wp2_with fail
  generalize w2.alloc (.cells #[.int .i64 0] 33) = w3 at *
  refine (prmust_ok w2.heap.size w3 (HE3.out.cell (k := 0) rfl)).mono ?_
  rintro e w' ⟨rfl, rfl⟩
  have c0 := HN3.out.cell (k := 0) rfl
  have y0 := HT3.out.cell (k := 0) rfl
  have f0 := HT3.out.frozen 0
  have c1 := HN3.out.cell (k := 1) rfl
  have y1 := HT3.out.cell (k := 1) rfl
  have f1 := HT3.out.frozen 1
  have c2 := HN3.out.cell (k := 2) rfl
  have y2 := HT3.out.cell (k := 2) rfl
  have f2 := HT3.out.frozen 2
  go_upto_region 4 with fail
  clear c0 c1 c2 y0 y1 y2 f0 f1 f2 HE3 HN3
  have HT4 := hid (((HT3.out.set 0 (.int .i64 n0)).set 1 (.int .i64 n1)).set 2 (.int .i64 n2))
  have HS4 := hid (((HS3.out.other (a := ⟨qt, 0, none⟩) (.int .i64 n0) (Ne.symm HNe.out.2.1)).other (a := ⟨qt, 1, none⟩) (.int .i64 n1) (Ne.symm HNe.out.2.1)).other (a := ⟨qt, 2, none⟩) (.int .i64 n2) (Ne.symm HNe.out.2.1))
  have HP4 := hid (((HP3.out.other (a := ⟨qt, 0, none⟩) (.int .i64 n0) (Ne.symm HNe.out.2.2)).other (a := ⟨qt, 1, none⟩) (.int .i64 n1) (Ne.symm HNe.out.2.2)).other (a := ⟨qt, 2, none⟩) (.int .i64 n2) (Ne.symm HNe.out.2.2))
  have HM4 := hid (((HM3.out.set (a := ⟨qt, 0, none⟩) (.inl ⟨Nat.le_refl _, Nat.lt_succ_self _⟩) (.int .i64 n0)).set (a := ⟨qt, 1, none⟩) (.inl ⟨Nat.le_refl _, Nat.lt_succ_self _⟩) (.int .i64 n1)).set (a := ⟨qt, 2, none⟩) (.inl ⟨Nat.le_refl _, Nat.lt_succ_self _⟩) (.int .i64 n2))
  have HA4 := hid (pr_set3 HA3.out HT3.out (.int .i64 n0) (.int .i64 n1) (.int .i64 n2))
  clear HT3 HS3 HP3 HM3 HA3
  generalize ((w3.setCell ⟨qt, 0, none⟩ (.int .i64 n0)).setCell ⟨qt, 1, none⟩ (.int .i64 n1)).setCell ⟨qt, 2, none⟩ (.int .i64 n2) = w4 at *
  have hslt := HS4.out.lt
  have hplt := HP4.out.lt
  have hb3 := Below.refl w4.heap.size w4
  refine wp_region_held_drew (S := fun W' => Below w4.heap.size w4 W') (by kernel_rfl) hb3.drew (fun hHeld => ?_)
  refine wpAnyH_take (i := 0) (v := .pointer (some ⟨M, 0, none⟩)) (by simp only [List.getElem?_toArray, List.getElem?_cons_zero]; rfl) (by kernel_rfl) (by kernel_rfl) (by kernel_rfl) (fun _ _ _ h => bp_put h) (Or.inl ⟨by rfl, fun W hSw => ?_⟩) (by assumption) ?_
  · have hcw := (hSw.cell (p := ⟨qp, 0, none⟩) hplt).trans (HP4.out.cell (k := 0) rfl)
    go_simp
  simp only [Act.put, List.setIfInBounds_toArray, List.set_cons_zero, List.set_cons_succ]
  refine wpAnyH_take (i := 1) (v := .pointer (some ⟨qs, 0, none⟩)) (by simp only [List.getElem?_toArray, List.getElem?_cons_zero, List.getElem?_cons_succ]; rfl) (by kernel_rfl) (by kernel_rfl) (by kernel_rfl) (fun _ _ _ h => bp_put h) (Or.inl ⟨by rfl, fun W hSw => ?_⟩) (by assumption) ?_
  · clear hSw
    go_simp
  simp only [Act.put, List.setIfInBounds_toArray, List.set_cons_zero, List.set_cons_succ]
  refine wpAnyH_take (i := 2) (v := .int .i64 lit) (by simp only [List.getElem?_toArray, List.getElem?_cons_zero, List.getElem?_cons_succ]; rfl) (by kernel_rfl) (by kernel_rfl) (by kernel_rfl) (fun _ _ _ h => bp_put h) (Or.inl ⟨by rfl, fun W hSw => ?_⟩) (by assumption) ?_
  · have hcw := (hSw.cell (p := ⟨qs, 0, none⟩) hslt).trans (HS4.out.cell (k := 0) rfl)
    go_simp
  simp only [Act.put, List.setIfInBounds_toArray, List.set_cons_zero, List.set_cons_succ]
  refine wpAnyH_take (i := 4) (v := .pointer (some ⟨M, 0, none⟩)) (by simp only [List.getElem?_toArray, List.getElem?_cons_zero, List.getElem?_cons_succ]; rfl) (by kernel_rfl) (by kernel_rfl) (by kernel_rfl) (fun _ _ _ h => bp_put h) (Or.inl ⟨by rfl, fun W hSw => ?_⟩) (by assumption) ?_
  · have hcw := (hSw.cell (p := ⟨qp, 0, none⟩) hplt).trans (HP4.out.cell (k := 0) rfl)
    go_simp
  simp only [Act.put, List.setIfInBounds_toArray, List.set_cons_zero, List.set_cons_succ]
  refine wpAnyH_take (i := 5) (v := .int .i64 v) (by simp only [List.getElem?_toArray, List.getElem?_cons_zero, List.getElem?_cons_succ]; rfl) (by kernel_rfl) (by kernel_rfl) (by kernel_rfl) (fun _ _ _ h => bp_put h) (Or.inl ⟨by rfl, fun W hSw => ?_⟩) (by assumption) ?_
  · clear hSw
    go_simp
  simp only [Act.put, List.setIfInBounds_toArray, List.set_cons_zero, List.set_cons_succ]
  refine wpAnyH_take (i := 8) (v := .pointer (some ⟨M, 0, none⟩)) (by simp only [List.getElem?_toArray, List.getElem?_cons_zero, List.getElem?_cons_succ]; rfl) (by kernel_rfl) (by kernel_rfl) (by kernel_rfl) (fun _ _ _ h => bp_put h) (Or.inl ⟨by rfl, fun W hSw => ?_⟩) (by assumption) ?_
  · have hcw := (hSw.cell (p := ⟨qp, 0, none⟩) hplt).trans (HP4.out.cell (k := 0) rfl)
    go_simp
  simp only [Act.put, List.setIfInBounds_toArray, List.set_cons_zero, List.set_cons_succ]
  refine wpAnyH_take (i := 9) (v := .pointer (some ⟨qs, 1, none⟩)) (by simp only [List.getElem?_toArray, List.getElem?_cons_zero, List.getElem?_cons_succ]; rfl) (by kernel_rfl) (by kernel_rfl) (by kernel_rfl) (fun _ _ _ h => bp_put h) (Or.inl ⟨by rfl, fun W hSw => ?_⟩) (by assumption) ?_
  · clear hSw
    go_simp
  simp only [Act.put, List.setIfInBounds_toArray, List.set_cons_zero, List.set_cons_succ]
  refine wpAnyH_take (i := 10) (v := .int .i64 len) (by simp only [List.getElem?_toArray, List.getElem?_cons_zero, List.getElem?_cons_succ]; rfl) (by kernel_rfl) (by kernel_rfl) (by kernel_rfl) (fun _ _ _ h => bp_put h) (Or.inl ⟨by rfl, fun W hSw => ?_⟩) (by assumption) ?_
  · have hcw := (hSw.cell (p := ⟨qs, 1, none⟩) hslt).trans (HS4.out.cell (k := 1) rfl)
    go_simp
  simp only [Act.put, List.setIfInBounds_toArray, List.set_cons_zero, List.set_cons_succ]
  refine wpAnyH_ready (rs := [3]) (by kernel_rfl) (by simp) ?_
  refine AllReadyH.cons (by simp only [List.getElem?_toArray, List.getElem?_cons_zero, List.getElem?_cons_succ]; rfl) (fun K hK => ?_) AllReadyH.nil
  rw [if_pos (by rfl)]
  go_simp
  go_at_call 33
  refine (HC1.out _ (HA4.out.low hb3.drew)).mono ?_
  rintro e w5 ⟨rfl, hb⟩
  have hbw5 := hb3.drew.trans (hb.mono hb3.drew.size)
  dsimp only
  refine hK.out _ _ hbw5 (fun _ => ?_)
  clear hK K hb
  refine wpAnyH_ready (rs := [6]) (by kernel_rfl) (by simp) ?_
  refine AllReadyH.cons (by simp only [List.getElem?_toArray, List.getElem?_cons_zero, List.getElem?_cons_succ]; rfl) (fun K hK => ?_) AllReadyH.nil
  rw [if_pos (by rfl)]
  go_simp
  go_at_call 34
  refine (HC2.out _ (HA4.out.low hbw5)).mono ?_
  rintro e w9 ⟨rfl, hb⟩
  have hb9 := hbw5.trans (hb.mono hbw5.size)
  exact ⟨rfl, rfl, HM4.out.trans (Mod.of_below hb9), _, _, _, HT4.out.below hb9 HT4.out.lt⟩
set_option maxRecDepth 100000 in
set_option maxHeartbeats 4000000 in
theorem prseq1_e3 (r0 r1 r2 lit len off : Int) (w : World) (M : Nat) (C : Nat → List Int) (h : PrAt w M C) (qr qs qt qp : Nat) (z0 z1 z2 : Value) (hbr : Blk w qr [.int .i64 r0, .int .i64 r1, .int .i64 r2] 40) (hbs : Blk w qs [.int .i64 lit, .int .i64 len, .int .i64 off] 42) (hbt : Blk w qt [z0, z1, z2] 40) (hbp : Blk w qp [.pointer (some ⟨M, 0, none⟩)] 28) (hne : qr ≠ qt ∧ qs ≠ qt ∧ qp ≠ qt) (hlen : -9223372036854775808 ≤ len ∧ len ≤ 9223372036854775807) (hs : seqOk r0 r1 r2 lit off = true) (a b : Int) (ha : numC C 1 lit = some a) (hb : numC C 2 (valF r0 r1 r2 lit off) = some b) (hc : lenC C len = none) :
    Calls Tryz.prog 30 #[.pointer (some ⟨qr, 0, none⟩), .pointer (some ⟨qs, 0, none⟩), .pointer (some ⟨qt, 0, none⟩), .pointer (some ⟨qp, 0, none⟩)] w (ClP qt (qt + 1) (fun W => ∃ x y z, Blk W qt [x, y, z] 40) w 2) := by
  obtain ⟨hr, hl, hw⟩ := seqOk_true hs
  obtain ⟨n0, n1, n2, hn⟩ : ∃ n0 n1 n2, nextF r0 r1 r2 (toldF r0 r1 r2 lit (valF r0 r1 r2 lit off)) = (n0, n1, n2) := ⟨_, _, _, rfl⟩
  have hV := rpvalue_ok r0 r1 r2 lit len off hr hl hw w
  rw [hn] at hV
  have HVl : Hid (Calls Tryz.prog 31 #[.agg #[.int .i64 r0, .int .i64 r1, .int .i64 r2], .agg #[.int .i64 lit, .int .i64 len, .int .i64 off]] w (RetV w (.tuple #[.int .i64 (valF r0 r1 r2 lit off), .agg #[.int .i64 n0, .int .i64 n1, .int .i64 n2], .int .i64 0]))) := hid hV
  have HNx := hid hn
  clear hn
  generalize hvv : valF r0 r1 r2 lit off = v at *
  have q1 := numC_bounds (by decide) (h.ok 1 (by decide)) ha
  have q2 := numC_bounds (by decide) (h.ok 2 (by decide)) hb
  have hw1 : IntKind.i64.wrap (a + b) = a + b := by rw [IntKind.wrap_i64]; omega
  have HC1 := hid (fun W (hW : PrAt W M C) => by have h := prcount_any W M C hW lit; rw [ha] at h; exact h)
  have HC1 : Hid (∀ W, PrAt W M C → Calls Tryz.prog 33 #[.pointer (some ⟨M, 0, none⟩), .int .i64 lit] W (RetV W (.int .i64 a))) := HC1
  have HC2 := hid (fun W (hW : PrAt W M C) => by have h := proff_any W M C hW v; rw [hb] at h; exact h)
  have HC2 : Hid (∀ W, PrAt W M C → Calls Tryz.prog 34 #[.pointer (some ⟨M, 0, none⟩), .int .i64 v] W (RetV W (.int .i64 b))) := HC2
  have HC3 := hid (fun W (hW : PrAt W M C) => by have h := prlen_any W M C hW len hlen.1 hlen.2; rw [hc] at h; exact h)
  have HC3 : Hid (∀ W, PrAt W M C → Calls Tryz.prog 35 #[.pointer (some ⟨M, 0, none⟩), .int .i64 len] W (PanV W 2)) := HC3
  clear hr hl hw hV ha hb hc
  have HR0 := hid hbr
  have HS0 := hid hbs
  have HT0 := hid hbt
  have HP0 := hid hbp
  have HA0 := hid h
  have HNe := hid hne
  clear h hbr hbs hbt hbp hne hlen hs
  have c0 := HR0.out.cell (k := 0) rfl
  have c1 := HR0.out.cell (k := 1) rfl
  have c2 := HR0.out.cell (k := 2) rfl
  have e0 := HS0.out.cell (k := 0) rfl
  have e1 := HS0.out.cell (k := 1) rfl
  have e2 := HS0.out.cell (k := 2) rfl
  go_enter Tryz.func30, Tryz.ntmps30
  go_wp2_with fail
  clear c0 c1 c2 e0 e1 e2
  refine HVl.out.mono ?_
  rintro e w1 ⟨rfl, hb⟩
  have HS1 := hid (HS0.out.below hb HS0.out.lt)
  have HT1 := hid (HT0.out.below hb HT0.out.lt)
  have HP1 := hid (HP0.out.below hb HP0.out.lt)
  have HA1 := hid (HA0.out.low hb)
  have HM1 := hid (Mod.of_below (B := qt) (N := qt + 1) hb)
  clear hb HR0 HS0 HT0 HP0 HA0 HVl
  go_upto_region 2 with fail
  have hb := below_new w1 (.cells #[.int .i64 n0, .int .i64 n1, .int .i64 n2] 40)
  have HN2 := hid (Blk.new w1 [.int .i64 n0, .int .i64 n1, .int .i64 n2] 40)
  have HS2 := hid (HS1.out.below hb HS1.out.lt)
  have HT2 := hid (HT1.out.below hb HT1.out.lt)
  have HP2 := hid (HP1.out.below hb HP1.out.lt)
  have HA2 := hid (HA1.out.low hb)
  have HM2 := hid (HM1.out.trans (Mod.of_below hb))
  clear hb HS1 HT1 HP1 HA1 HM1
  generalize w1.alloc (.cells #[.int .i64 n0, .int .i64 n1, .int .i64 n2] 40) = w2 at *
  generalize w1.heap.size = q6 at *
  have hb := below_new w2 (.cells #[.int .i64 0] 33)
  have HE3 := hid (Blk.new w2 [.int .i64 0] 33)
  have HN3 := hid (HN2.out.below hb HN2.out.lt)
  have HS3 := hid (HS2.out.below hb HS2.out.lt)
  have HT3 := hid (HT2.out.below hb HT2.out.lt)
  have HP3 := hid (HP2.out.below hb HP2.out.lt)
  have HA3 := hid (HA2.out.low hb)
  have HM3 := hid (HM2.out.trans (Mod.of_below hb))
  clear hb HN2 HS2 HT2 HP2 HA2 HM2
  go_wp2_with fail
  generalize w2.alloc (.cells #[.int .i64 0] 33) = w3 at *
  refine (prmust_ok w2.heap.size w3 (HE3.out.cell (k := 0) rfl)).mono ?_
  rintro e w' ⟨rfl, rfl⟩
  have c0 := HN3.out.cell (k := 0) rfl
  have y0 := HT3.out.cell (k := 0) rfl
  have f0 := HT3.out.frozen 0
  have c1 := HN3.out.cell (k := 1) rfl
  have y1 := HT3.out.cell (k := 1) rfl
  have f1 := HT3.out.frozen 1
  have c2 := HN3.out.cell (k := 2) rfl
  have y2 := HT3.out.cell (k := 2) rfl
  have f2 := HT3.out.frozen 2
  go_upto_region 4 with fail
  clear c0 c1 c2 y0 y1 y2 f0 f1 f2 HE3 HN3
  have HT4 := hid (((HT3.out.set 0 (.int .i64 n0)).set 1 (.int .i64 n1)).set 2 (.int .i64 n2))
  have HS4 := hid (((HS3.out.other (a := ⟨qt, 0, none⟩) (.int .i64 n0) (Ne.symm HNe.out.2.1)).other (a := ⟨qt, 1, none⟩) (.int .i64 n1) (Ne.symm HNe.out.2.1)).other (a := ⟨qt, 2, none⟩) (.int .i64 n2) (Ne.symm HNe.out.2.1))
  have HP4 := hid (((HP3.out.other (a := ⟨qt, 0, none⟩) (.int .i64 n0) (Ne.symm HNe.out.2.2)).other (a := ⟨qt, 1, none⟩) (.int .i64 n1) (Ne.symm HNe.out.2.2)).other (a := ⟨qt, 2, none⟩) (.int .i64 n2) (Ne.symm HNe.out.2.2))
  have HM4 := hid (((HM3.out.set (a := ⟨qt, 0, none⟩) (.inl ⟨Nat.le_refl _, Nat.lt_succ_self _⟩) (.int .i64 n0)).set (a := ⟨qt, 1, none⟩) (.inl ⟨Nat.le_refl _, Nat.lt_succ_self _⟩) (.int .i64 n1)).set (a := ⟨qt, 2, none⟩) (.inl ⟨Nat.le_refl _, Nat.lt_succ_self _⟩) (.int .i64 n2))
  have HA4 := hid (pr_set3 HA3.out HT3.out (.int .i64 n0) (.int .i64 n1) (.int .i64 n2))
  clear HT3 HS3 HP3 HM3 HA3
  generalize ((w3.setCell ⟨qt, 0, none⟩ (.int .i64 n0)).setCell ⟨qt, 1, none⟩ (.int .i64 n1)).setCell ⟨qt, 2, none⟩ (.int .i64 n2) = w4 at *
  have hslt := HS4.out.lt
  have hplt := HP4.out.lt
  have hb3 := Below.refl w4.heap.size w4
  refine wp_region_held_drew (S := fun W' => Below w4.heap.size w4 W') (by kernel_rfl) hb3.drew (fun hHeld => ?_)
  refine wpAnyH_take (i := 0) (v := .pointer (some ⟨M, 0, none⟩)) (by simp only [List.getElem?_toArray, List.getElem?_cons_zero]; rfl) (by kernel_rfl) (by kernel_rfl) (by kernel_rfl) (fun _ _ _ h => bp_put h) (Or.inl ⟨by rfl, fun W hSw => ?_⟩) (by assumption) ?_
  · have hcw := (hSw.cell (p := ⟨qp, 0, none⟩) hplt).trans (HP4.out.cell (k := 0) rfl)
    go_simp
  simp only [Act.put, List.setIfInBounds_toArray, List.set_cons_zero, List.set_cons_succ]
  refine wpAnyH_take (i := 1) (v := .pointer (some ⟨qs, 0, none⟩)) (by simp only [List.getElem?_toArray, List.getElem?_cons_zero, List.getElem?_cons_succ]; rfl) (by kernel_rfl) (by kernel_rfl) (by kernel_rfl) (fun _ _ _ h => bp_put h) (Or.inl ⟨by rfl, fun W hSw => ?_⟩) (by assumption) ?_
  · clear hSw
    go_simp
  simp only [Act.put, List.setIfInBounds_toArray, List.set_cons_zero, List.set_cons_succ]
  refine wpAnyH_take (i := 2) (v := .int .i64 lit) (by simp only [List.getElem?_toArray, List.getElem?_cons_zero, List.getElem?_cons_succ]; rfl) (by kernel_rfl) (by kernel_rfl) (by kernel_rfl) (fun _ _ _ h => bp_put h) (Or.inl ⟨by rfl, fun W hSw => ?_⟩) (by assumption) ?_
  · have hcw := (hSw.cell (p := ⟨qs, 0, none⟩) hslt).trans (HS4.out.cell (k := 0) rfl)
    go_simp
  simp only [Act.put, List.setIfInBounds_toArray, List.set_cons_zero, List.set_cons_succ]
  refine wpAnyH_take (i := 4) (v := .pointer (some ⟨M, 0, none⟩)) (by simp only [List.getElem?_toArray, List.getElem?_cons_zero, List.getElem?_cons_succ]; rfl) (by kernel_rfl) (by kernel_rfl) (by kernel_rfl) (fun _ _ _ h => bp_put h) (Or.inl ⟨by rfl, fun W hSw => ?_⟩) (by assumption) ?_
  · have hcw := (hSw.cell (p := ⟨qp, 0, none⟩) hplt).trans (HP4.out.cell (k := 0) rfl)
    go_simp
  simp only [Act.put, List.setIfInBounds_toArray, List.set_cons_zero, List.set_cons_succ]
  refine wpAnyH_take (i := 5) (v := .int .i64 v) (by simp only [List.getElem?_toArray, List.getElem?_cons_zero, List.getElem?_cons_succ]; rfl) (by kernel_rfl) (by kernel_rfl) (by kernel_rfl) (fun _ _ _ h => bp_put h) (Or.inl ⟨by rfl, fun W hSw => ?_⟩) (by assumption) ?_
  · clear hSw
    go_simp
  simp only [Act.put, List.setIfInBounds_toArray, List.set_cons_zero, List.set_cons_succ]
  refine wpAnyH_take (i := 8) (v := .pointer (some ⟨M, 0, none⟩)) (by simp only [List.getElem?_toArray, List.getElem?_cons_zero, List.getElem?_cons_succ]; rfl) (by kernel_rfl) (by kernel_rfl) (by kernel_rfl) (fun _ _ _ h => bp_put h) (Or.inl ⟨by rfl, fun W hSw => ?_⟩) (by assumption) ?_
  · have hcw := (hSw.cell (p := ⟨qp, 0, none⟩) hplt).trans (HP4.out.cell (k := 0) rfl)
    go_simp
  simp only [Act.put, List.setIfInBounds_toArray, List.set_cons_zero, List.set_cons_succ]
  refine wpAnyH_take (i := 9) (v := .pointer (some ⟨qs, 1, none⟩)) (by simp only [List.getElem?_toArray, List.getElem?_cons_zero, List.getElem?_cons_succ]; rfl) (by kernel_rfl) (by kernel_rfl) (by kernel_rfl) (fun _ _ _ h => bp_put h) (Or.inl ⟨by rfl, fun W hSw => ?_⟩) (by assumption) ?_
  · clear hSw
    go_simp
  simp only [Act.put, List.setIfInBounds_toArray, List.set_cons_zero, List.set_cons_succ]
  refine wpAnyH_take (i := 10) (v := .int .i64 len) (by simp only [List.getElem?_toArray, List.getElem?_cons_zero, List.getElem?_cons_succ]; rfl) (by kernel_rfl) (by kernel_rfl) (by kernel_rfl) (fun _ _ _ h => bp_put h) (Or.inl ⟨by rfl, fun W hSw => ?_⟩) (by assumption) ?_
  · have hcw := (hSw.cell (p := ⟨qs, 1, none⟩) hslt).trans (HS4.out.cell (k := 1) rfl)
    go_simp
  simp only [Act.put, List.setIfInBounds_toArray, List.set_cons_zero, List.set_cons_succ]
  refine wpAnyH_ready (rs := [3]) (by kernel_rfl) (by simp) ?_
  refine AllReadyH.cons (by simp only [List.getElem?_toArray, List.getElem?_cons_zero, List.getElem?_cons_succ]; rfl) (fun K hK => ?_) AllReadyH.nil
  rw [if_pos (by rfl)]
  go_simp
  go_at_call 33
  refine (HC1.out _ (HA4.out.low hb3.drew)).mono ?_
  rintro e w5 ⟨rfl, hb⟩
  have hbw5 := hb3.drew.trans (hb.mono hb3.drew.size)
  dsimp only
  refine hK.out _ _ hbw5 (fun _ => ?_)
  clear hK K hb
  refine wpAnyH_ready (rs := [6]) (by kernel_rfl) (by simp) ?_
  refine AllReadyH.cons (by simp only [List.getElem?_toArray, List.getElem?_cons_zero, List.getElem?_cons_succ]; rfl) (fun K hK => ?_) AllReadyH.nil
  rw [if_pos (by rfl)]
  go_simp
  go_at_call 34
  refine (HC2.out _ (HA4.out.low hbw5)).mono ?_
  rintro e w6 ⟨rfl, hb⟩
  have hbw6 := hbw5.trans (hb.mono hbw5.size)
  dsimp only
  refine hK.out _ _ hbw6 (fun _ => ?_)
  clear hK K hb
  refine wpAnyH_take (i := 7) (v := .int .i64 (a + b)) (by simp only [List.getElem?_toArray, List.getElem?_cons_zero, List.getElem?_cons_succ]; rfl) (by kernel_rfl) (by kernel_rfl) (by kernel_rfl) (fun _ _ _ h => bp_put h) (Or.inl ⟨by rfl, fun W hSw => ?_⟩) (by assumption) ?_
  · clear hSw
    go_simp
  simp only [Act.put, List.setIfInBounds_toArray, List.set_cons_zero, List.set_cons_succ]
  refine wpAnyH_ready (rs := [11]) (by kernel_rfl) (by simp) ?_
  refine AllReadyH.cons (by simp only [List.getElem?_toArray, List.getElem?_cons_zero, List.getElem?_cons_succ]; rfl) (fun K hK => ?_) AllReadyH.nil
  rw [if_pos (by rfl)]
  go_simp
  go_at_call 35
  refine (HC3.out _ (HA4.out.low hbw6)).mono ?_
  rintro e w9 ⟨rfl, hb⟩
  have hb9 := hbw6.trans (hb.mono hbw6.size)
  exact ⟨rfl, rfl, HM4.out.trans (Mod.of_below hb9), _, _, _, HT4.out.below hb9 HT4.out.lt⟩
set_option maxRecDepth 100000 in
set_option maxHeartbeats 4000000 in
theorem prseq1_ev (r0 r1 r2 lit len off : Int) (w : World) (M : Nat) (C : Nat → List Int) (h : PrAt w M C) (qr qs qt qp : Nat) (z0 z1 z2 : Value) (hbr : Blk w qr [.int .i64 r0, .int .i64 r1, .int .i64 r2] 40) (hbs : Blk w qs [.int .i64 lit, .int .i64 len, .int .i64 off] 42) (hbt : Blk w qt [z0, z1, z2] 40) (hbp : Blk w qp [.pointer (some ⟨M, 0, none⟩)] 28) (hne : qr ≠ qt ∧ qs ≠ qt ∧ qp ≠ qt) (hlen : -9223372036854775808 ≤ len ∧ len ≤ 9223372036854775807) (hs : seqOk r0 r1 r2 lit off = false) :
    Calls Tryz.prog 30 #[.pointer (some ⟨qr, 0, none⟩), .pointer (some ⟨qs, 0, none⟩), .pointer (some ⟨qt, 0, none⟩), .pointer (some ⟨qp, 0, none⟩)] w (ClP qt (qt + 1) (fun W => ∃ x y z, Blk W qt [x, y, z] 40) w 2) := by
  have HVl := hid (rpvalue_bad r0 r1 r2 lit len off (seqOk_false hs) w)
  have hn9 := hlen.1
  have hne9 := hne.1
  have HR0 := hid hbr
  have HS0 := hid hbs
  have HT0 := hid hbt
  have HP0 := hid hbp
  have HA0 := hid h
  have HNe := hid hne
  clear h hbr hbs hbt hbp hne hlen hs
  have c0 := HR0.out.cell (k := 0) rfl
  have c1 := HR0.out.cell (k := 1) rfl
  have c2 := HR0.out.cell (k := 2) rfl
  have e0 := HS0.out.cell (k := 0) rfl
  have e1 := HS0.out.cell (k := 1) rfl
  have e2 := HS0.out.cell (k := 2) rfl
  go_enter Tryz.func30, Tryz.ntmps30
  go_wp2_with fail
  clear c0 c1 c2 e0 e1 e2
  refine HVl.out.mono ?_
  rintro e w1 ⟨rfl, hb⟩
  have HT1 := hid (HT0.out.below hb HT0.out.lt)
  have HM1 := hid (Mod.of_below (B := qt) (N := qt + 1) hb)
  clear hb HR0 HT0 HVl
  go_upto_region 2 with fail
  have hb := below_new w1 (.cells #[.int .i64 0, .int .i64 0, .int .i64 0] 40)
  have HN2 := hid (Blk.new w1 [.int .i64 0, .int .i64 0, .int .i64 0] 40)
  have HT2 := hid (HT1.out.below hb HT1.out.lt)
  have HM2 := hid (HM1.out.trans (Mod.of_below hb))
  clear hb HT1 HM1
  generalize w1.alloc (.cells #[.int .i64 0, .int .i64 0, .int .i64 0] 40) = w2 at *
  generalize w1.heap.size = q6 at *
  have hb := below_new w2 (.cells #[.int .i64 2] 33)
  have HE3 := hid (Blk.new w2 [.int .i64 2] 33)
  have HN3 := hid (HN2.out.below hb HN2.out.lt)
  have HT3 := hid (HT2.out.below hb HT2.out.lt)
  have HM3 := hid (HM2.out.trans (Mod.of_below hb))
  clear hb HN2 HT2 HM2
  go_wp2_with fail
  generalize w2.alloc (.cells #[.int .i64 2] 33) = w3 at *
  refine (prmust_bad w2.heap.size 2 w3 (HE3.out.cell (k := 0) rfl) (by decide)).mono ?_
  rintro e w' ⟨rfl, rfl⟩
  go_wp2
  exact ⟨rfl, rfl, HM3.out, _, _, _, HT3.out⟩
end Go.Proofs.YtolmmfbgljgdcaaGreat
