/-
  The law PriceHolds, the theorem of the stage: no cost is negative, more frequent symbols do not cost more, and the cost of a plan is the sum of the costs of its parts. No condition.
-/
import Derived.Test.YtolmmfbgljgdcaaPrL
import Derived.Test.YtolmmfbgljgdcaaPrX
import Derived.Test.YtolmmfbgljgdcaaPrP
import Derived.Deep.DeepCutAuto
namespace Go.Proofs.Ytolmmfbgljgdcaa
open Go.RowKit Go.Port

set_option maxRecDepth 100000 in
set_option maxHeartbeats 8000000 in
theorem PriceHolds_walk (w : World) (A : Nat → Option Addr) (cp : Nat → Nat) (C : Nat → List Int) (h : FourAt w A cp C) (x y : UInt8) (v3 : Value) (bs : List UInt8) (h3 : Rs w 1 v3 bs.length (bs.map bv)) (v4 : Value) (l : List Sq) (h4 : Rs w 3 v4 l.length (l.flatMap lsqc)) (hwf : ∀ s ∈ l, SqI s) (cut : Int) :
    Calls Try.prog 7 #[fourV A cp C, .int .u8 x.toNat, .int .u8 y.toNat, v3, v4, .int .i64 cut] w (RetV w (.bool true)) := by
  have HW := hid prworks_any
  obtain ⟨ad, c, a, cl, rfl, rfl, hpd⟩ := pd_of h3 h4
  have HWf := hid (show ∀ s ∈ l, (-9223372036854775808 ≤ s.len ∧ s.len ≤ 9223372036854775807) ∧ (-9223372036854775808 ≤ s.off ∧ s.off ≤ 9223372036854775807) from fun s hs => (hwf s hs).2)
  have HPd := hid hpd
  clear h3 h4 hpd hwf
  have HX0 := hid (Blk.new w [.slice (A 0) (C 0).length (cp 0), .slice (A 1) (C 1).length (cp 1), .slice (A 2) (C 2).length (cp 2), .slice (A 3) (C 3).length (cp 3)] 23)
  have HB0 := hid (below_new w (.cells #[.slice (A 0) (C 0).length (cp 0), .slice (A 1) (C 1).length (cp 1), .slice (A 2) (C 2).length (cp 2), .slice (A 3) (C 3).length (cp 3)] 23))
  have HFw := hid (fun W => prfew_any A cp C W)
  have HF0 := hid (h.low HB0.out)
  unfold fourV at HFw
  unfold fourV
  clear h
  have c0 := HX0.out.cell (k := 0) rfl
  have c1 := HX0.out.cell (k := 1) rfl
  have c2 := HX0.out.cell (k := 2) rfl
  have c3 := HX0.out.cell (k := 3) rfl
  go_enter Try.func7, Try.ntmps7
  go_wp2_with fail
  clear c0 c1 c2 c3
  generalize w.alloc (.cells #[.slice (A 0) (C 0).length (cp 0), .slice (A 1) (C 1).length (cp 1), .slice (A 2) (C 2).length (cp 2), .slice (A 3) (C 3).length (cp 3)] 23) = w0 at *
  refine (HFw.out _).mono ?_
  rintro e w1 ⟨rfl, hb⟩
  have HX1 := hid (HX0.out.below hb HX0.out.lt)
  have HF1 := hid (HF0.out.low hb)
  have HB1 := hid (HB0.out.trans (hb.mono HB0.out.size))
  clear hb HX0 HF0 HB0
  cases hfew : fewB C
  · go_wp2_with (go_at_call 11; refine (HW.out _).mono ?_; rintro e w' ⟨rfl, hb⟩)
    go_ret
    exact ⟨rfl, HB1.out.trans (hb.mono HB1.out.size)⟩
  · by_cases hl1 : (bs.length : Int) ≤ 300
    rotate_left
    · go_wp2_with (go_at_call 11; refine (HW.out _).mono ?_; rintro e w' ⟨rfl, hb⟩)
      go_ret
      exact ⟨rfl, HB1.out.trans (hb.mono HB1.out.size)⟩
    by_cases hl2 : (l.length : Int) ≤ 40
    rotate_left
    · go_wp2_with (go_at_call 11; refine (HW.out _).mono ?_; rintro e w' ⟨rfl, hb⟩)
      go_ret
      exact ⟨rfl, HB1.out.trans (hb.mono HB1.out.size)⟩
    have c0 := HX1.out.cell (k := 0) rfl
    have c1 := HX1.out.cell (k := 1) rfl
    have c2 := HX1.out.cell (k := 2) rfl
    have c3 := HX1.out.cell (k := 3) rfl
    go_wp2_with fail
    by_cases hok : ∀ k, k < 4 → HistOk k (C k)
    rotate_left
    · refine (prnew_bad A cp C w1 HF1.out hok).mono ?_
      rintro e w2 ⟨rfl, hb⟩
      have HB2 := hid (HB1.out.trans (hb.mono HB1.out.size))
      clear hb c0 c1 c2 c3
      go_wp2_with fail
      refine (prnum_any _ _).mono ?_
      rintro e w' ⟨rfl, rfl⟩
      go_wp2_with fail
      refine (HW.out _).mono ?_
      rintro e w4 ⟨rfl, hb⟩
      go_wp2
      go_ret
      exact ⟨rfl, HB2.out.trans (hb.mono HB2.out.size)⟩
    refine (prnew_ok A cp C w1 HF1.out hok).mono ?_
    rintro e w2 ⟨M, rfl, hp, _, hb⟩
    have HB2 := hid (HB1.out.trans (hb.mono HB1.out.size))
    have HP2 := hid hp
    have HX2 := hid (HX1.out.below hb HX1.out.lt)
    have HF2 := hid (HF1.out.low hb)
    have HOk := hid hok
    clear hb hp hok HB1 HX1 HF1 HFw c0 c1 c2 c3
    go_wp2_with fail
    refine (prnum_any _ _).mono ?_
    rintro e w' ⟨rfl, rfl⟩
    have hz := Try.zeros84
    have HBn := hid (below_new w2 (.cells (zeros.map iv).toArray 54))
    have HZ3 := hid (Blk.new w2 (zeros.map iv) 54)
    go_upto_region 7 with fail
    have HX3 := hid (HX2.out.below HBn.out HX2.out.lt)
    have HC0 := hid ((HF2.out.low HBn.out).cells 0 (by decide))
    have HC1 := hid (And.intro (HF2.out.cap 0 (by decide)) (HF2.out.nil 0 (by decide)))
    have hgw : w.heap.size < w2.heap.size := HX2.out.lt
    generalize w2.alloc (.cells (zeros.map iv).toArray 54) = w3 at *
    obtain ⟨W4, vs, hcp, hz4, hvs, hb4⟩ := copy_two w2.heap.size w2.heap.size (A 0) (cp 0) (C 0) w3.drew (HOk.out 0 (by decide)).1 HC1.out.2 HC1.out.1 HZ3.out (HC0.out.low (show Below w3.heap.size w3 w3.drew from (Below.refl _ _).drew)) (Nat.le_refl _)
    have HX4 := hid (HX3.out.below ((Below.refl w2.heap.size w3).drew.trans hb4) hgw)
    have HB24 := hid ((HBn.out.drew).trans hb4)
    have HB4 := hid (HB2.out.trans (HB24.out.mono HB2.out.size))
    have HP4 := hid (HP2.out.low HB24.out)
    have HZ4 := hid hz4
    have HVs := hid hvs
    clear hz hz4 hvs hb4 HB2 HP2 HF2 HC0 HC1 HBn HZ3
    refine wp_region_noPanic ?_
    refine wp_region_held_drew (S := fun W' => Blk W' w.heap.size [.slice (A 0) (C 0).length (cp 0), .slice (A 1) (C 1).length (cp 1), .slice (A 2) (C 2).length (cp 2), .slice (A 3) (C 3).length (cp 3)] 23) (by kernel_rfl) HX3.out (fun hHeld => ?_)
    refine wpAnyH_take (i := 0) (v := .slice (some ⟨w2.heap.size, 0, none⟩) 256 256) (by simp only [List.getElem?_toArray, List.getElem?_cons_zero]; rfl) (by kernel_rfl) (by kernel_rfl) (by kernel_rfl) (fun _ _ _ h => h) (Or.inl ⟨by rfl, fun W hSw => ?_⟩) (by assumption) ?_
    · clear hSw
      go_simp
    simp only [Act.put, List.setIfInBounds_toArray, List.set_cons_zero, List.set_cons_succ]
    refine wpAnyH_take (i := 1) (v := .pointer (some ⟨w.heap.size, 0, none⟩)) (by simp only [List.getElem?_toArray, List.getElem?_cons_zero, List.getElem?_cons_succ]; rfl) (by kernel_rfl) (by kernel_rfl) (by kernel_rfl) (fun _ _ _ h => h) (Or.inl ⟨by rfl, fun W hSw => ?_⟩) (by assumption) ?_
    · clear hSw
      go_simp
    simp only [Act.put, List.setIfInBounds_toArray, List.set_cons_zero, List.set_cons_succ]
    refine wpAnyH_take (i := 2) (v := .slice (A 0) (C 0).length (cp 0)) (by simp only [List.getElem?_toArray, List.getElem?_cons_zero, List.getElem?_cons_succ]; rfl) (by kernel_rfl) (by kernel_rfl) (by kernel_rfl) (fun _ _ _ h => h) (Or.inl ⟨by rfl, fun W hSw => ?_⟩) (by assumption) ?_
    · have hcw := hSw.cell (k := 0) rfl
      go_simp
    simp only [Act.put, List.setIfInBounds_toArray, List.set_cons_zero, List.set_cons_succ]
    refine wpAnyH_ready (rs := [3]) (by kernel_rfl) (by simp) ?_
    refine AllReadyH.cons (by simp only [List.getElem?_toArray, List.getElem?_cons_zero, List.getElem?_cons_succ]; rfl) (fun K hK => ?_) AllReadyH.nil
    rw [if_pos (by rfl)]
    go_simp
    refine hK.out _ _ HX4.out (fun _ => ?_)
    clear hK K
    refine wpAnyH_done (by kernel_rfl) ?_ _
    refine NoPanic.normal ?_
    clear hcp hHeld
    have HBa := hid (below_new W4 (.cells #[.int .u8 x.toNat] 5))
    have HCa := hid (Cs.of_blk (Blk.new W4 [.int .u8 x.toNat] 5))
    have HPa := hid (HP4.out.low HBa.out)
    have HZa := hid (HZ4.out.below HBa.out HZ4.out.lt)
    have HB5 := hid (HB4.out.trans (HBa.out.mono HB4.out.size))
    clear HX2 HX3 HX4 HB24 HP4 HZ4 HB4
    go_wp2_with fail
    generalize W4.alloc (.cells #[.int .u8 x.toNat] 5) = W5 at *
    refine (prlits_any W5 M C HPa.out (some ⟨W4.heap.size, 0, none⟩) 1 [x] (by simp) HCa.out).mono ?_
    rintro e w' ⟨rfl, rfl⟩
    have HBb := hid (below_new W5 (.cells #[.int .u8 y.toNat] 5))
    have HCb := hid (Cs.of_blk (Blk.new W5 [.int .u8 y.toNat] 5))
    have HP6 := hid (HPa.out.low HBb.out)
    have HZ6 := hid (HZa.out.below HBb.out HZa.out.lt)
    have HB6 := hid (HB5.out.trans (HBb.out.mono HB5.out.size))
    clear HBa HCa HPa HZa HB5
    go_wp2_with fail
    generalize W5.alloc (.cells #[.int .u8 y.toNat] 5) = W6 at *
    refine (prlits_any W6 M C HP6.out (some ⟨W5.heap.size, 0, none⟩) 1 [y] (by simp) HCb.out).mono ?_
    rintro e w' ⟨rfl, rfl⟩
    clear HBb HCb
    rw [litsC_one, litsC_one]
    have hxa := pcost_nonneg (HOk.out 0 (by decide)) x.toNat
    have hya := pcost_nonneg (HOk.out 0 (by decide)) y.toNat
    have hm1 := fun h => pcost_mono (HOk.out 0 (by decide)) (a := x.toNat) (b := y.toNat) h
    have hm2 := fun h => pcost_mono (HOk.out 0 (by decide)) (a := y.toNat) (b := x.toNat) h
    have hx256 := UInt8.toNat_lt x
    have hy256 := UInt8.toNat_lt y
    have f1 : W6.cell? ⟨w2.heap.size, x.toNat, none⟩ = some (.int .i64 ((C 0).getD x.toNat 0)) := HZ6.out.cell (HVs.out x.toNat hx256)
    have f2 : W6.cell? ⟨w2.heap.size, y.toNat, none⟩ = some (.int .i64 ((C 0).getD y.toNat 0)) := HZ6.out.cell (HVs.out y.toNat hy256)
    generalize pcost 0 (C 0) x.toNat = xa at *
    generalize pcost 0 (C 0) y.toNat = ya at *
    generalize (C 0).getD x.toNat 0 = da at *
    generalize (C 0).getD y.toNat 0 = db at *
    clear HZ6 HVs
    have hxI : ((x.toNat : Nat) : Int) < 256 := by omega
    have hyI : ((y.toNat : Nat) : Int) < 256 := by omega
    go_upto_region 9 with fail
    go_cut [102] (fun t wx => t = .bool false ∧ Below W6.heap.size W6 wx)
    case first =>
      have d1 : decide (xa < 0) = false := by simp; omega
      have d2 : decide (ya < 0) = false := by simp; omega
      rcases Int.lt_trichotomy db da with hd | hd | hd
      · have d3 : decide (db < da) = true := by simp; omega
        have d4 : (da == db) = false := by simp; omega
        have d5 : decide (ya < xa) = false := by have := hm1 (by omega); simp; omega
        go_quiet (fail)
        go_wp2_with fail
        go_meet
        exact ⟨rfl, below_drewN (Below.refl _ _) _⟩
      · have d3 : decide (db < da) = false := by simp; omega
        have d4 : (da == db) = true := by simp; omega
        have d5 : xa = ya := by have := hm1 (by omega); have := hm2 (by omega); omega
        go_quiet (fail)
        go_wp2_with fail
        go_meet
        exact ⟨rfl, below_drewN (Below.refl _ _) _⟩
      · have d3 : decide (db < da) = false := by simp; omega
        have d4 : (da == db) = false := by simp; omega
        go_quiet (fail)
        go_wp2_with fail
        go_meet
        exact ⟨rfl, below_drewN (Below.refl _ _) _⟩
    case rest =>
      obtain ⟨rfl, hbc⟩ := hcut
      have HB7 := hid (HB6.out.trans (hbc.mono HB6.out.size))
      have HP7 := hid (HP6.out.low hbc)
      clear hbc HB6 HP6 f1 f2 hm1 hm2
      generalize wc = w7 at *
      have HD7 := hid ((HPd.out (by omega) (by omega)).low HB7.out)
      go_wp2_with fail
      have HPl := hid (prplan_any w7 M C HP7.out a cl l ad c bs HD7.out HWf.out)
      unfold planV at HPl
      cases hp : plitsO bs l with
      | false =>
        rw [hp, if_neg (by decide)] at HPl
        refine HPl.out.mono ?_
        rintro e w8 ⟨rfl, hb⟩
        have HB8 := hid (HB7.out.trans (hb.mono HB7.out.size))
        clear hb HPl HB7 HP7 HD7 hp HWf HOk
        go_wp2_with fail
        refine (prnum_any _ _).mono ?_
        rintro e w' ⟨rfl, rfl⟩
        go_wp2_with fail
        refine (HW.out _).mono ?_
        rintro e w9 ⟨rfl, hb⟩
        go_wp2
        go_ret
        exact ⟨rfl, HB8.out.trans (hb.mono HB8.out.size)⟩
      | true =>
        rw [hp, if_pos rfl] at HPl
        cases hO : planO C bs l with
        | none =>
          rw [hO] at HPl
          have HPl : Hid (Calls Try.prog 29 #[.pointer (some ⟨M, 0, none⟩), .slice ad bs.length c, .slice a l.length cl] w7 (RetV w7 (.tuple #[.int .i64 0, .int .i64 2]))) := HPl
          refine HPl.out.mono ?_
          rintro e w8 ⟨rfl, hb⟩
          have HB8 := hid (HB7.out.trans (hb.mono HB7.out.size))
          clear hb HPl HB7 HP7 HD7 hp HWf HOk
          go_wp2_with fail
          refine (prnum_any _ _).mono ?_
          rintro e w' ⟨rfl, rfl⟩
          go_wp2_with fail
          refine (HW.out _).mono ?_
          rintro e w9 ⟨rfl, hb⟩
          go_wp2
          go_ret
          exact ⟨rfl, HB8.out.trans (hb.mono HB8.out.size)⟩
        | some X =>
          rw [hO] at HPl
          have HPl : Hid (Calls Try.prog 29 #[.pointer (some ⟨M, 0, none⟩), .slice ad bs.length c, .slice a l.length cl] w7 (RetV w7 (.tuple #[.int .i64 X, .int .i64 0]))) := HPl
          refine HPl.out.mono ?_
          rintro e w8 ⟨rfl, hb⟩
          have HB8 := hid (HB7.out.trans (hb.mono HB7.out.size))
          have HP8 := hid (HP7.out.low hb)
          have HD8 := hid (HD7.out.low hb)
          clear hb HPl HB7 HP7 HD7
          have HpO := hid (And.intro hp hO)
          clear hp hO
          go_wp2_with fail
          refine (prnum_any _ _).mono ?_
          rintro e w' ⟨rfl, rfl⟩
          obtain ⟨k, hk⟩ : ∃ k : Nat, max 0 (min cut (l.length : Int)) = (k : Int) := ⟨(max 0 (min cut (l.length : Int))).toNat, by omega⟩
          have hkl : k ≤ l.length := by omega
          have hklI : (k : Int) ≤ (l.length : Int) := by omega
          obtain ⟨hX0, P, hP, hPb, Y, Z, q1, q2, q3, q4, hsum⟩ := planO_cut HOk.out HpO.out.1 HpO.out.2 k
          obtain ⟨nE, hnE, hnE2⟩ : ∃ n, planEnd 0 l = some n ∧ n ≤ bs.length := by
            have hp := HpO.out.1
            unfold plitsO at hp
            cases e : planEnd 0 l with
            | none => rw [e] at hp; cases hp
            | some n => rw [e] at hp; exact ⟨n, rfl, by simpa using hp⟩
          have HE := hid hnE
          have HQ := hid (And.intro q1 (And.intro q2 (And.intro q3 (And.intro q4 hsum))))
          have HX0 := hid hX0
          have HPP := hid (And.intro hP hPb)
          have hPI : (P : Int) ≤ (bs.length : Int) := by omega
          have hlcI : (l.length : Int) ≤ (cl : Int) := by have := HD8.out.hlc; omega
          clear hnE hnE2 q1 q2 q3 q4 hsum hX0 hP
          go_wp2_with fail
          clear hk
          go_loopw [21, 22] (fun t i wr => ∃ j : Nat, j ≤ k ∧ t = .int .i64 (lend 0 (l.take j)) ∧ i = .int .i64 (j : Int) ∧ Below w8.heap.size w8 wr) (fun _ i _ => k - (intOf i).toNat)
          case atStart => exact ⟨0, Nat.zero_le _, rfl, rfl, Below.refl _ _⟩
          case round =>
            obtain ⟨j, hj, rfl, rfl, hb⟩ := hrel
            have HBr := hid hb
            by_cases hlt : j < k
            · obtain ⟨s, hsj⟩ : ∃ s, l[j]? = some s := ⟨_, List.getElem?_eq_getElem (by omega)⟩
              obtain ⟨hq1, hq2, hq3, hq4⟩ := plan_seq HE.out hsj
              obtain ⟨bl, o, rfl, hbl, y0, y1, y2⟩ := seq_cells (HD8.out.cells.low HBr.out) hsj
              have e1 := planEnd_pre (l.take j) (l.drop j) 0 nE (by rw [List.take_append_drop]; exact HE.out)
              have b1 := planEnd_some _ _ _ e1
              have b2 : lend 0 (l.take j) ≤ 131072 := by
                by_cases hn0 : l.take j = []
                · rw [hn0]; decide
                · exact b1.2.2 hn0
              have hnx : lend 0 (l.take (j + 1)) = lend 0 (l.take j) + s.lit + s.len := by
                obtain ⟨_, e⟩ := List.getElem?_eq_some_iff.1 hsj
                rw [List.take_succ_eq_append_getElem (by omega), e, lend_snoc]
              have HNx := hid hnx
              have hb0 := b1.2.1
              obtain ⟨lit, len, off⟩ := s
              dsimp only at *
              have hjI : (j : Int) < (l.length : Int) := by omega
              have hjk : (j : Int) < (k : Int) := by omega
              have HLt := hid hlt
              clear hnx hsj e1 b1 hlt hj hb hbl y2
              generalize lend 0 (l.take j) = T at *
              have hw1 : IntKind.i64.wrap (T + lit) = T + lit := by rw [IntKind.wrap_i64]; omega
              have hw2 : IntKind.i64.wrap (T + lit + len) = T + lit + len := by rw [IntKind.wrap_i64]; omega
              go_upto_region 19 with fail
              go_quiet (fail)
              go_wp2
              go_roundw
              case rel => exact ⟨j + 1, HLt.out, by rw [HNx.out], by go_num, below_drewN HBr.out _⟩
              case measure => have := HLt.out; simp [intOf]; omega
            · obtain rfl : j = k := by omega
              rw [HPP.out.1]
              clear hj hb
              go_upto_region 20 with fail
              have HD9 := hid (HD8.out.low HBr.out)
              have HP9 := hid (HP8.out.low HBr.out)
              have hcP : P ≤ c := by have := HD8.out.hLc; omega
              have hck : j ≤ cl := by have := HD8.out.hlc; omega
              have hs1 := cut_u8_hi ad bs.length c P hcP
              have hs2 := cut_u8_hiAt ad bs.length c P hcP
              have hs3 := cut_sq_hi a l.length cl j hck
              have hs4 := cut_sq_hiAt a l.length cl j hck
              have HL1 := hid (fun W (hb : Below wr.heap.size wr W) => prplan_any W M C (HP9.out.low hb) (cutA a cl 0 3) cl (l.take j) (cutA ad c 0 1) c (bs.take P) ((HD9.out.low hb).front j P) (fun s hs => HWf.out s (List.mem_of_mem_take hs)))
              unfold planV at HL1
              rw [HQ.out.1, if_pos rfl, HQ.out.2.1, List.length_take, Nat.min_eq_left HPP.out.2, List.length_take, Nat.min_eq_left hkl] at HL1
              have HL1 : Hid (∀ W, Below wr.heap.size wr W → Calls Try.prog 29 #[.pointer (some ⟨M, 0, none⟩), .slice (cutA ad c 0 1) P c, .slice (cutA a cl 0 3) j cl] W (RetV W (.tuple #[.int .i64 Y, .int .i64 0]))) := HL1
              have hb3 := Below.refl wr.heap.size wr
              refine wp_region_noPanic ?_
              refine wp_region_held_drew (S := fun W' => Below wr.heap.size wr W') (by kernel_rfl) hb3.drew (fun hHeld => ?_)
              refine wpAnyH_take (i := 0) (v := .pointer (some ⟨M, 0, none⟩)) (by simp only [List.getElem?_toArray, List.getElem?_cons_zero]; rfl) (by kernel_rfl) (by kernel_rfl) (by kernel_rfl) (fun _ _ _ h => h) (Or.inl ⟨by rfl, fun W hSw => ?_⟩) (by assumption) ?_
              · clear hSw
                go_simp
              simp only [Act.put, List.setIfInBounds_toArray, List.set_cons_zero, List.set_cons_succ]
              refine wpAnyH_take (i := 1) (v := .slice ad bs.length c) (by simp only [List.getElem?_toArray, List.getElem?_cons_zero, List.getElem?_cons_succ]; rfl) (by kernel_rfl) (by kernel_rfl) (by kernel_rfl) (fun _ _ _ h => h) (Or.inl ⟨by rfl, fun W hSw => ?_⟩) (by assumption) ?_
              · clear hSw
                go_simp
              simp only [Act.put, List.setIfInBounds_toArray, List.set_cons_zero, List.set_cons_succ]
              refine wpAnyH_take (i := 2) (v := .int .i64 (P : Int)) (by simp only [List.getElem?_toArray, List.getElem?_cons_zero, List.getElem?_cons_succ]; rfl) (by kernel_rfl) (by kernel_rfl) (by kernel_rfl) (fun _ _ _ h => h) (Or.inl ⟨by rfl, fun W hSw => ?_⟩) (by assumption) ?_
              · clear hSw
                go_simp
              simp only [Act.put, List.setIfInBounds_toArray, List.set_cons_zero, List.set_cons_succ]
              refine wpAnyH_take (i := 3) (v := .slice (cutA ad c 0 1) P c) (by simp only [List.getElem?_toArray, List.getElem?_cons_zero, List.getElem?_cons_succ]; rfl) (by kernel_rfl) (by kernel_rfl) (by kernel_rfl) (fun _ _ _ h => h) (Or.inl ⟨by rfl, fun W hSw => ?_⟩) (by assumption) ?_
              · clear hSw
                go_simp
              simp only [Act.put, List.setIfInBounds_toArray, List.set_cons_zero, List.set_cons_succ]
              refine wpAnyH_take (i := 4) (v := .slice a l.length cl) (by simp only [List.getElem?_toArray, List.getElem?_cons_zero, List.getElem?_cons_succ]; rfl) (by kernel_rfl) (by kernel_rfl) (by kernel_rfl) (fun _ _ _ h => h) (Or.inl ⟨by rfl, fun W hSw => ?_⟩) (by assumption) ?_
              · clear hSw
                go_simp
              simp only [Act.put, List.setIfInBounds_toArray, List.set_cons_zero, List.set_cons_succ]
              refine wpAnyH_take (i := 5) (v := .int .i64 (j : Int)) (by simp only [List.getElem?_toArray, List.getElem?_cons_zero, List.getElem?_cons_succ]; rfl) (by kernel_rfl) (by kernel_rfl) (by kernel_rfl) (fun _ _ _ h => h) (Or.inl ⟨by rfl, fun W hSw => ?_⟩) (by assumption) ?_
              · clear hSw
                go_simp
              simp only [Act.put, List.setIfInBounds_toArray, List.set_cons_zero, List.set_cons_succ]
              refine wpAnyH_take (i := 6) (v := .slice (cutA a cl 0 3) j cl) (by simp only [List.getElem?_toArray, List.getElem?_cons_zero, List.getElem?_cons_succ]; rfl) (by kernel_rfl) (by kernel_rfl) (by kernel_rfl) (fun _ _ _ h => h) (Or.inl ⟨by rfl, fun W hSw => ?_⟩) (by assumption) ?_
              · clear hSw
                go_simp
              simp only [Act.put, List.setIfInBounds_toArray, List.set_cons_zero, List.set_cons_succ]
              refine wpAnyH_ready (rs := [7]) (by kernel_rfl) (by simp) ?_
              refine AllReadyH.cons (by simp only [List.getElem?_toArray, List.getElem?_cons_zero, List.getElem?_cons_succ]; rfl) (fun K hK => ?_) AllReadyH.nil
              rw [if_pos (by rfl)]
              go_simp
              go_at_call 29
              refine (HL1.out _ hb3.drew).mono ?_
              rintro e w9 ⟨rfl, hb⟩
              have hb4 := hb3.drew.trans (hb.mono hb3.drew.size)
              dsimp only
              refine hK.out _ _ hb4 (fun _ => ?_)
              clear hK K hb
              refine wpAnyH_take (i := 8) (v := .tuple #[.int .i64 Y, .int .i64 0]) (by simp only [List.getElem?_toArray, List.getElem?_cons_zero, List.getElem?_cons_succ]; rfl) (by kernel_rfl) (by kernel_rfl) (by kernel_rfl) (fun _ _ _ h => h) (Or.inl ⟨by rfl, fun W hSw => ?_⟩) (by assumption) ?_
              · clear hSw
                go_simp
              simp only [Act.put, List.setIfInBounds_toArray, List.set_cons_zero, List.set_cons_succ]
              refine wpAnyH_take (i := 9) (v := .int .i64 Y) (by simp only [List.getElem?_toArray, List.getElem?_cons_zero, List.getElem?_cons_succ]; rfl) (by kernel_rfl) (by kernel_rfl) (by kernel_rfl) (fun _ _ _ h => h) (Or.inl ⟨by rfl, fun W hSw => ?_⟩) (by assumption) ?_
              · clear hSw
                go_simp
              simp only [Act.put, List.setIfInBounds_toArray, List.set_cons_zero, List.set_cons_succ]
              refine wpAnyH_take (i := 10) (v := .int .i64 0) (by simp only [List.getElem?_toArray, List.getElem?_cons_zero, List.getElem?_cons_succ]; rfl) (by kernel_rfl) (by kernel_rfl) (by kernel_rfl) (fun _ _ _ h => h) (Or.inl ⟨by rfl, fun W hSw => ?_⟩) (by assumption) ?_
              · clear hSw
                go_simp
              simp only [Act.put, List.setIfInBounds_toArray, List.set_cons_zero, List.set_cons_succ]
              refine wpAnyH_ready (rs := [11]) (by kernel_rfl) (by simp) ?_
              refine AllReadyH.cons (by simp only [List.getElem?_toArray, List.getElem?_cons_zero, List.getElem?_cons_succ]; rfl) (fun K hK => ?_) AllReadyH.nil
              rw [if_pos (by rfl)]
              go_simp
              refine hK.out _ _ hb4 (fun _ => ?_)
              clear hK K
              refine wpAnyH_ready (rs := [12]) (by kernel_rfl) (by simp) ?_
              refine AllReadyH.cons (by simp only [List.getElem?_toArray, List.getElem?_cons_zero, List.getElem?_cons_succ]; rfl) (fun K hK => ?_) AllReadyH.nil
              rw [if_pos (by rfl)]
              go_simp
              refine hK.out _ _ hb4 (fun _ => ?_)
              clear hK K
              refine wpAnyH_done (by kernel_rfl) ?_ _
              refine NoPanic.normal ?_
              have HBr9 := hid (HBr.out.trans (hb4.mono HBr.out.size))
              clear hs1 hs2 hs3 hs4 hb3 hb4 HL1 HD9 HP9 hHeld HBr hcP
              have HD9 := hid (HD8.out.low HBr9.out)
              have HP9 := hid (HP8.out.low HBr9.out)
              clear HD8 HP8
              go_wp2_with fail
              have hs1 := cut_u8_lo ad bs.length c P HPP.out.2
              have hs2 := cut_u8_loAt ad bs.length c P HPP.out.2
              have hs3 := cut_sq_lo a l.length cl j hkl
              have hs4 := cut_sq_loAt a l.length cl j hkl
              have HL1 := hid (fun W (hb : Below w9.heap.size w9 W) => prplan_any W M C (HP9.out.low hb) (cutA a cl j 3) (cl - j) (l.drop j) (cutA ad c P 1) (c - P) (bs.drop P) ((HD9.out.low hb).back j P HPP.out.2 hkl) (fun s hs => HWf.out s (List.mem_of_mem_drop hs)))
              unfold planV at HL1
              rw [HQ.out.2.2.1, if_pos rfl, HQ.out.2.2.2.1, List.length_drop, List.length_drop] at HL1
              have HL1 : Hid (∀ W, Below w9.heap.size w9 W → Calls Try.prog 29 #[.pointer (some ⟨M, 0, none⟩), .slice (cutA ad c P 1) (bs.length - P) (c - P), .slice (cutA a cl j 3) (l.length - j) (cl - j)] W (RetV W (.tuple #[.int .i64 Z, .int .i64 0]))) := HL1
              have hb3 := Below.refl w9.heap.size w9
              refine wp_region_noPanic ?_
              refine wp_region_held_drew (S := fun W' => Below w9.heap.size w9 W') (by kernel_rfl) hb3.drew (fun hHeld => ?_)
              refine wpAnyH_take (i := 0) (v := .pointer (some ⟨M, 0, none⟩)) (by simp only [List.getElem?_toArray, List.getElem?_cons_zero]; rfl) (by kernel_rfl) (by kernel_rfl) (by kernel_rfl) (fun _ _ _ h => h) (Or.inl ⟨by rfl, fun W hSw => ?_⟩) (by assumption) ?_
              · clear hSw
                go_simp
              simp only [Act.put, List.setIfInBounds_toArray, List.set_cons_zero, List.set_cons_succ]
              refine wpAnyH_take (i := 1) (v := .slice ad bs.length c) (by simp only [List.getElem?_toArray, List.getElem?_cons_zero, List.getElem?_cons_succ]; rfl) (by kernel_rfl) (by kernel_rfl) (by kernel_rfl) (fun _ _ _ h => h) (Or.inl ⟨by rfl, fun W hSw => ?_⟩) (by assumption) ?_
              · clear hSw
                go_simp
              simp only [Act.put, List.setIfInBounds_toArray, List.set_cons_zero, List.set_cons_succ]
              refine wpAnyH_take (i := 2) (v := .int .i64 (P : Int)) (by simp only [List.getElem?_toArray, List.getElem?_cons_zero, List.getElem?_cons_succ]; rfl) (by kernel_rfl) (by kernel_rfl) (by kernel_rfl) (fun _ _ _ h => h) (Or.inl ⟨by rfl, fun W hSw => ?_⟩) (by assumption) ?_
              · clear hSw
                go_simp
              simp only [Act.put, List.setIfInBounds_toArray, List.set_cons_zero, List.set_cons_succ]
              refine wpAnyH_take (i := 3) (v := .slice (cutA ad c P 1) (bs.length - P) (c - P)) (by simp only [List.getElem?_toArray, List.getElem?_cons_zero, List.getElem?_cons_succ]; rfl) (by kernel_rfl) (by kernel_rfl) (by kernel_rfl) (fun _ _ _ h => h) (Or.inl ⟨by rfl, fun W hSw => ?_⟩) (by assumption) ?_
              · clear hSw
                go_simp
              simp only [Act.put, List.setIfInBounds_toArray, List.set_cons_zero, List.set_cons_succ]
              refine wpAnyH_take (i := 4) (v := .slice a l.length cl) (by simp only [List.getElem?_toArray, List.getElem?_cons_zero, List.getElem?_cons_succ]; rfl) (by kernel_rfl) (by kernel_rfl) (by kernel_rfl) (fun _ _ _ h => h) (Or.inl ⟨by rfl, fun W hSw => ?_⟩) (by assumption) ?_
              · clear hSw
                go_simp
              simp only [Act.put, List.setIfInBounds_toArray, List.set_cons_zero, List.set_cons_succ]
              refine wpAnyH_take (i := 5) (v := .int .i64 (j : Int)) (by simp only [List.getElem?_toArray, List.getElem?_cons_zero, List.getElem?_cons_succ]; rfl) (by kernel_rfl) (by kernel_rfl) (by kernel_rfl) (fun _ _ _ h => h) (Or.inl ⟨by rfl, fun W hSw => ?_⟩) (by assumption) ?_
              · clear hSw
                go_simp
              simp only [Act.put, List.setIfInBounds_toArray, List.set_cons_zero, List.set_cons_succ]
              refine wpAnyH_take (i := 6) (v := .slice (cutA a cl j 3) (l.length - j) (cl - j)) (by simp only [List.getElem?_toArray, List.getElem?_cons_zero, List.getElem?_cons_succ]; rfl) (by kernel_rfl) (by kernel_rfl) (by kernel_rfl) (fun _ _ _ h => h) (Or.inl ⟨by rfl, fun W hSw => ?_⟩) (by assumption) ?_
              · clear hSw
                go_simp
              simp only [Act.put, List.setIfInBounds_toArray, List.set_cons_zero, List.set_cons_succ]
              refine wpAnyH_ready (rs := [7]) (by kernel_rfl) (by simp) ?_
              refine AllReadyH.cons (by simp only [List.getElem?_toArray, List.getElem?_cons_zero, List.getElem?_cons_succ]; rfl) (fun K hK => ?_) AllReadyH.nil
              rw [if_pos (by rfl)]
              go_simp
              go_at_call 29
              refine (HL1.out _ hb3.drew).mono ?_
              rintro e w10 ⟨rfl, hb⟩
              have hb4 := hb3.drew.trans (hb.mono hb3.drew.size)
              dsimp only
              refine hK.out _ _ hb4 (fun _ => ?_)
              clear hK K hb
              refine wpAnyH_take (i := 8) (v := .tuple #[.int .i64 Z, .int .i64 0]) (by simp only [List.getElem?_toArray, List.getElem?_cons_zero, List.getElem?_cons_succ]; rfl) (by kernel_rfl) (by kernel_rfl) (by kernel_rfl) (fun _ _ _ h => h) (Or.inl ⟨by rfl, fun W hSw => ?_⟩) (by assumption) ?_
              · clear hSw
                go_simp
              simp only [Act.put, List.setIfInBounds_toArray, List.set_cons_zero, List.set_cons_succ]
              refine wpAnyH_take (i := 9) (v := .int .i64 Z) (by simp only [List.getElem?_toArray, List.getElem?_cons_zero, List.getElem?_cons_succ]; rfl) (by kernel_rfl) (by kernel_rfl) (by kernel_rfl) (fun _ _ _ h => h) (Or.inl ⟨by rfl, fun W hSw => ?_⟩) (by assumption) ?_
              · clear hSw
                go_simp
              simp only [Act.put, List.setIfInBounds_toArray, List.set_cons_zero, List.set_cons_succ]
              refine wpAnyH_take (i := 10) (v := .int .i64 0) (by simp only [List.getElem?_toArray, List.getElem?_cons_zero, List.getElem?_cons_succ]; rfl) (by kernel_rfl) (by kernel_rfl) (by kernel_rfl) (fun _ _ _ h => h) (Or.inl ⟨by rfl, fun W hSw => ?_⟩) (by assumption) ?_
              · clear hSw
                go_simp
              simp only [Act.put, List.setIfInBounds_toArray, List.set_cons_zero, List.set_cons_succ]
              refine wpAnyH_ready (rs := [11]) (by kernel_rfl) (by simp) ?_
              refine AllReadyH.cons (by simp only [List.getElem?_toArray, List.getElem?_cons_zero, List.getElem?_cons_succ]; rfl) (fun K hK => ?_) AllReadyH.nil
              rw [if_pos (by rfl)]
              go_simp
              refine hK.out _ _ hb4 (fun _ => ?_)
              clear hK K
              refine wpAnyH_ready (rs := [12]) (by kernel_rfl) (by simp) ?_
              refine AllReadyH.cons (by simp only [List.getElem?_toArray, List.getElem?_cons_zero, List.getElem?_cons_succ]; rfl) (fun K hK => ?_) AllReadyH.nil
              rw [if_pos (by rfl)]
              go_simp
              refine hK.out _ _ hb4 (fun _ => ?_)
              clear hK K
              refine wpAnyH_done (by kernel_rfl) ?_ _
              refine NoPanic.normal ?_
              have HB10 := hid (HB8.out.trans ((HBr9.out.trans (hb4.mono HBr9.out.size)).mono HB8.out.size))
              clear hs1 hs2 hs3 hs4 hb3 hb4 HL1 HD9 HP9 hHeld HBr9
              have hX0 := HX0.out
              have hsum := HQ.out.2.2.2.2
              have hXb := planO_bounds HOk.out HQ.out.2.1 HQ.out.1 (by rw [List.length_take]; omega) (by rw [List.length_take]; omega)
              have hZb := planO_bounds HOk.out HQ.out.2.2.2.1 HQ.out.2.2.1 (by rw [List.length_drop]; omega) (by rw [List.length_drop]; omega)
              have hwr : IntKind.i64.wrap (Y + Z) = X := by rw [IntKind.wrap_i64]; omega
              have hge : decide (0 ≤ X) = true := by simp; omega
              go_wp2_with fail
              refine (prnum_any _ _).mono ?_
              rintro e w' ⟨rfl, rfl⟩
              go_wp2_with fail
              refine (prnum_any _ _).mono ?_
              rintro e w' ⟨rfl, rfl⟩
              go_wp2_with fail
              refine (HW.out _).mono ?_
              rintro e w11 ⟨rfl, hb⟩
              go_wp2
              go_ret
              exact ⟨rfl, HB10.out.trans (hb.mono HB10.out.size)⟩
end Go.Proofs.Ytolmmfbgljgdcaa
namespace Go.Proofs.Ytolmmfbgljgdcaa.LPriceHolds
open Go.ChangeShapes Go.WideShapes Go.ChangeAt Go.RowKit Go.Port

set_option maxRecDepth 100000 in
set_option maxHeartbeats 4000000 in
theorem lifted (os : Os) (started : os.Started) (H : Type) (enc : TypeId × Value → H) :
    ReturnsInHanded {} Try.checked os 7 .any (Rows.priceHoldsSpec.pre6 enc Try.prog Try.f7 Rows.priceHoldsRow.domain false) (Rows.priceHoldsSpec.post enc Try.prog Try.f7 false true false false) := by
  refine returnsInHanded_of_change (C := Try.checked) Try.own started (by kernel_rfl) Try.func7
    (ChangeSpec.witness6 (enc := enc) (C := Try.checked) false ⟨#[], #[.agg #[.slice none 0 0, .slice none 0 0, .slice none 0 0, .slice none 0 0], .int .u8 0, .int .u8 0, .slice none 0 0, .slice none 0 0, .int .i64 0], []⟩ 8 (by kernel_rfl) (by kernel_rfl) (by kernel_rfl) (by kernel_rfl)) ?_
  intro W base args ds gs before hval0 hW hcnd _
  have hval : ∀ (j : Nat) t v, Try.f7.params[j]? = some t → args[j]? = some v → Value.okWide Try.prog W .any base t v := hval0
  have hW' := hW
  obtain ⟨p, q, hA0, hV, rfl, hfz, hnd⟩ := hW
  have hA : DataW.TrodAll enc Try.prog W 0 (fun _ => true) true Try.f7.params.toList args.toList ds p := hA0
  rw [Try.params7] at hA hval
  obtain ⟨v0, vs0, d0, ds0, p0, q0, hargs, rfl, rfl, h0, r0⟩ := trodAll_cons hA
  obtain ⟨v1, vs1, d1, ds1, p1, q1, rfl, rfl, rfl, h1, r1⟩ := trodAll_cons r0
  obtain ⟨v2, vs2, d2, ds2, p2, q2, rfl, rfl, rfl, h2, r2⟩ := trodAll_cons r1
  obtain ⟨v3, vs3, d3, ds3, p3, q3, rfl, rfl, rfl, h3, r3⟩ := trodAll_cons r2
  obtain ⟨v4, vs4, d4, ds4, p4, q4, rfl, rfl, rfl, h4, r4⟩ := trodAll_cons r3
  obtain ⟨v5, vs5, d5, ds5, p5, q5, rfl, rfl, rfl, h5, r5⟩ := trodAll_cons r4
  obtain ⟨rfl, rfl, rfl⟩ := trodAll_nil r5
  obtain rfl : args = #[v0, v1, v2, v3, v4, v5] := by cases args; simp_all
  obtain ⟨rfl, rfl⟩ := trodVars_none hV
  obtain ⟨A0, cp0, C0, rfl, hF0, wF0⟩ := open_four (hval 0 23 v0 rfl rfl) h0
  obtain ⟨a1, rfl, rfl, rfl, w1⟩ := open_int Try.underlying5 (hval 1 5 v1 rfl rfl) h1
  obtain ⟨b1, hb1⟩ : ∃ b : UInt8, (b.toNat : Int) = a1 := ⟨UInt8.ofNat a1.toNat, by have h := bounds_u8 w1; rw [UInt8.toNat_ofNat']; omega⟩
  subst hb1
  obtain ⟨a2, rfl, rfl, rfl, w2⟩ := open_int Try.underlying5 (hval 2 5 v2 rfl rfl) h2
  obtain ⟨b2, hb2⟩ : ∃ b : UInt8, (b.toNat : Int) = a2 := ⟨UInt8.ofNat a2.toNat, by have h := bounds_u8 w2; rw [UInt8.toNat_ofNat']; omega⟩
  subst hb2
  obtain ⟨l3, hl3, wl3⟩ := open_rowV Try.underlying24 Try.underlying5 (by kernel_rfl) (hval 3 24 v3 rfl rfl) h3
  obtain ⟨bs3, hbs3, hn3⟩ := bytes_of wl3
  rw [hbs3, ← hn3] at hl3
  obtain ⟨l4, hl4, wl4⟩ := open_seqs (hval 4 46 v4 rfl rfl) h4
  obtain ⟨a5, rfl, rfl, rfl, w5⟩ := open_int Try.underlying3 (hval 5 3 v5 rfl rfl) h5
  clear hA0 hval0
  simp only [List.append_nil] at hW'
  refine (PriceHolds_walk W A0 cp0 C0 hF0 b1 b2 v3 bs3 hl3 v4 l4 hl4 wl4 a5).mono fun e W' ⟨he, hb⟩ => ?_
  subst he
  exact ⟨_, rfl, law_post Try.kids Try.full Try.underlying4 rfl rfl hW' (by rw [Try.params7]; decide) rfl rfl rfl hb⟩

theorem over : Rows.priceHoldsRow.holds Try.pinned (OpenSpec.ofChange Rows.priceHoldsSpec) :=
  OpenClaim.holds_of_wide 7 Try.f7 rfl rfl rfl rfl rfl rfl rfl ⟨rfl, rfl, rfl, rfl, rfl⟩ rfl rfl rfl rfl rfl (by kernel_rfl) Try.func7 (by kernel_rfl)
    (of_decide_eq_true (by kernel_rfl)) (by unfold Func.isWrapper; first | (rw [if_pos (by decide +kernel)]; kernel_rfl) | (rw [if_neg (by decide +kernel)]; exact ⟨rfl, rfl⟩))
    (fun os started H enc _ => lifted os started H enc)

/-- The statement. -/
theorem proved : Rows.PriceHoldsSaid :=
  over
end Go.Proofs.Ytolmmfbgljgdcaa.LPriceHolds
