/-
  The law SplitCuts: the cut points have minimal cost, for any text (of which 9000 bytes are used) and any maximum from 60 on, or for 60 bytes of it and any maximum. No condition.
-/
import Derived.Test.YtadnhjloeaddnaaSText2
import Derived.Test.YtadnhjloeaddnaaSplitR
import Derived.Test.YtadnhjloeaddnaaStr
namespace Go.Port
open Go.RowKit

theorem cutsS_ints (bs : List UInt8) (g m : Nat) (hg : 0 < g) (hgm : g ≤ m) :
    riseB bs.length 0 ((cutsS bs g m).map fun (x : Nat) => (x : Int)) = true ∧ mayB m bs.length 0 ((cutsS bs g m).map fun (x : Nat) => (x : Int)) = true ∧ (∀ d ∈ cutsS bs g m, d % g = 0) ∧
      worthGo bs 0 (((cutsS bs g m).map fun (x : Nat) => (x : Int)) ++ [(bs.length : Int)]) = (way bs g m (nPl bs.length g - 1)).2 := by
  obtain ⟨h1, h2, h3⟩ := ints_of_good bs g m (cutsS bs g m) 0 (cutsS_good bs g m hg hgm)
  refine ⟨h1, h2, h3, ?_⟩
  have h := worthGo_nat bs 0 (cutsS bs g m ++ [bs.length])
  rw [List.map_append] at h
  rw [← cutsS_cost bs g m hg hgm]
  exact h
theorem cutsS_length (bs : List UInt8) (g m : Nat) : (cutsS bs g m).length ≤ nPl bs.length g := by
  unfold cutsS
  rw [List.length_reverse]
  exact backGo_length _ _ _ _ _
end Go.Port
namespace Go.Proofs.Ytadnhjloeaddnaa
open Go.RowKit Go.Port

set_option maxRecDepth 100000 in
set_option maxHeartbeats 4000000 in
theorem SplitCuts_walk (w : World) (v : Value) (hv : TextAt w v) (most : Int) (_ : -9223372036854775808 ≤ most ∧ most ≤ 9223372036854775807) (short : Bool) :
    Calls Try.prog 3 #[v, .int .i64 most, .bool short] w (RetV w (.bool true)) := by
  obtain ⟨a, n, c, rfl, hnc, hcm, hel⟩ := hv
  have hB0 := below_new w (.cells #[.slice a n c] 24)
  have HXf := hid (fun S (hS : S ≤ 9000) => bytes_any (w.alloc (.cells #[.slice a n c] 24)) (.agg #[.slice a n c]) S (by omega) ⟨a, n, c, rfl, hnc, hcm, fun i hi => by
    obtain ⟨b, off, vb, bs, m, h1, h2, h3, h4, h5, h6⟩ := hel i hi
    exact ⟨b, off, vb, bs, m, h1, Nat.lt_of_lt_of_le h2 hB0.size, (hB0.cell (p := ⟨b, off + i * 2, none⟩) h2).trans h3, (hB0.cell (p := ⟨b, off + i * 2 + 1, none⟩) h2).trans h4, h5.below hB0, h6⟩⟩)
  have HB0 := hid hB0
  have HW := hid works_any
  have hh := heldI_bounds most
  have HMo := hid (fun W => most_any most W)
  clear hel hB0
  cases short with
  | false =>
    by_cases h60 : most < 60
    · go_enter Try.func3, Try.ntmps3
      go_wp2_with fail
      refine (HXf.out 9000 (by omega)).mono ?_
      rintro e w1 ⟨vb, fine, bs, rfl, hs, hl, hb⟩
      obtain ⟨ab, cb, rfl, hnb, hcb, hab, hcell⟩ := hs.open
      have HB1 := hid (HB0.out.trans (hb.mono HB0.out.size))
      have HC := hid hcell
      clear hs hcell hb
      cases fine with
      | false =>
        go_wp2_with fail
        refine (HW.out _).mono ?_
        rintro e w5 ⟨rfl, hb5⟩
        go_wp2
        go_ret
        exact ⟨rfl, HB1.out.trans (hb5.mono HB1.out.size)⟩
      | true =>
        go_wp2_with fail
        refine (HW.out _).mono ?_
        rintro e w5 ⟨rfl, hb5⟩
        go_wp2
        go_ret
        exact ⟨rfl, HB1.out.trans (hb5.mono HB1.out.size)⟩
    · go_enter Try.func3, Try.ntmps3
      go_wp2_with fail
      refine (HXf.out 9000 (by omega)).mono ?_
      rintro e w1 ⟨vb, fine, bs, rfl, hs, hl, hb⟩
      obtain ⟨ab, cb, rfl, hnb, hcb, hab, hcell⟩ := hs.open
      have HB1 := hid (HB0.out.trans (hb.mono HB0.out.size))
      have HC := hid hcell
      clear hs hcell hb
      cases fine with
      | false =>
        go_wp2_with fail
        refine (HW.out _).mono ?_
        rintro e w5 ⟨rfl, hb5⟩
        go_wp2
        go_ret
        exact ⟨rfl, HB1.out.trans (hb5.mono HB1.out.size)⟩
      | true =>
        have hcb' := hcb
        unfold maxLen at hcb'
        have hstr := run_str (P := Try.prog) w1 25 9 5 Try.underlying25 Try.underlying5 Try.underlying9 ab bs.length cb bs rfl HC.out
        have hg0 := grainN_pos most
        have hgm := grainN_le most
        have hgi := grainN_eq most
        have hmi := mostN_eq most
        have hnpl := nPl_le bs.length (grainN most) hg0
        have HCut := hid (cuts_any ab cb most bs w1 (by omega) (by omega) hnb hcb HC.out)
        have hcl := cutsS_length bs (grainN most) (mostN most)
        obtain ⟨i1, i2, i3, i4⟩ := cutsS_ints bs (grainN most) (mostN most) hg0 hgm
        have HCS := hid (fun W (hW : Below w1.heap.size w1 W) j u hu => (show ∃ b off, ab = some ⟨b, off, none⟩ ∧ b < W.heap.size ∧ W.cell? ⟨b, off + j, none⟩ = some u from by
          obtain ⟨b, off, h1, h2, h3⟩ := HC.out j u hu
          exact ⟨b, off, h1, Nat.lt_of_lt_of_le h2 hW.size, (hW.cell (p := ⟨b, off + j, none⟩) h2).trans h3⟩))
        have HLe := hid (fun W (hW : Below w1.heap.size w1 W) => rleast_any ab cb (grainN most) (mostN most) most bs W (by omega) (by omega) hmi hgi hnb hcb (HCS.out W hW))
        have HMi := hid (fun W (hW : Below w1.heap.size w1 W) => mincost_any ab cb most bs W (by omega) (by omega) hnb hcb (HCS.out W hW))
        have HWo := hid (fun W (hW : Below w1.heap.size w1 W) a2 n2 c2 (cuts : List Int) (h1 : n2 ≤ 9000) h2 h3 => rworth_any ab a2 bs.length cb n2 c2 bs cuts W h1 rfl (by omega) h2 hnb hab (HCS.out W hW) h3)
        have HMa := hid (fun W a2 n2 c2 (cuts : List Int) (h1 : n2 ≤ 9000) h2 h3 => may_any (bs.length : Int) most a2 n2 c2 cuts W (by omega) (by omega) h2 (by unfold maxLen; omega) h3)
        have HNb := hid (show (cutsS bs (grainN most) (mostN most)).length ≤ 9000 from by
          rcases Nat.lt_or_ge (cutsS bs (grainN most) (mostN most)).length 9001 with h | h
          · omega
          · exfalso
            obtain ⟨cs, e1, e2⟩ := rise_nat bs.length _ 0 i1
            have hlen : cs.length = (cutsS bs (grainN most) (mostN most)).length := by
              have := congrArg List.length e1
              simpa using this.symm
            have hx := e2 9000 (cs[9000]'(by omega)) (by rw [List.getElem?_eq_getElem])
            have hk : ∀ k : Nat, k ≤ 9000 → k ≤ (cs.take k).getLastD 0 := by
              intro k
              induction k with
              | zero => intro _; exact Nat.zero_le _
              | succ k ih =>
                intro hk
                have h1 := e2 k (cs[k]'(by omega)) (by rw [List.getElem?_eq_getElem])
                have h2 := ih (by omega)
                rw [List.take_succ_eq_append_getElem (by omega)]
                simp only [List.getLastD_concat]
                omega
            have := hk 9000 (Nat.le_refl _)
            omega)
        rw [hmi] at i2
        generalize hw0 : (way bs (grainN most) (mostN most) (nPl bs.length (grainN most) - 1)).2 = W0 at *
        generalize cutsS bs (grainN most) (mostN most) = cs at *
        generalize grainN most = g at *
        have HI1 := hid i1
        have HI2 := hid i2
        have HI3 := hid i3
        have HI4 := hid i4
        clear i1 i2 i3 i4 hmi
        have HGI := hid hgi
        have HMof := HMo
        generalize heldI most = h at *
        clear hgi hw0
        go_wp2_with fail
        clear hstr
        refine HCut.out.mono ?_
        rintro e w2 ⟨vl, rfl, hsl, hb2⟩
        obtain ⟨al, cl, rfl, _, _, _, hlc⟩ := hsl.open
        have HLC := hid (fun W (hW : Below w2.heap.size w2 W) j u (hu : ((cs.map fun (x : Nat) => (x : Int)).map iv)[j]? = some u) => (show ∃ b off, al = some ⟨b, off, none⟩ ∧ b < W.heap.size ∧ W.cell? ⟨b, off + j, none⟩ = some u from by
          obtain ⟨b, off, h1, h2, h3⟩ := hlc j u (by rw [List.map_map] at hu; exact hu)
          exact ⟨b, off, h1, Nat.lt_of_lt_of_le h2 hW.size, (hW.cell (p := ⟨b, off + j, none⟩) h2).trans h3⟩))
        have HB2 := hid hb2
        clear hsl hlc hb2 HCut
        go_wp2_with fail
        refine (HLe.out w2 HB2.out).mono ?_
        rintro e w3 ⟨rfl, hb3⟩
        have HB3 := hid (HB2.out.trans (hb3.mono HB2.out.size))
        have HL3 := hid hb3
        clear hb3
        go_wp2_with fail
        have HWo1 := hid (HWo.out w3 HB3.out al cs.length cl (cs.map fun (x : Nat) => (x : Int)) HNb.out (by simp) (HLC.out w3 HL3.out))
        rw [HI1.out, if_pos rfl, if_pos rfl, HI4.out] at HWo1
        refine HWo1.out.mono ?_
        rintro e w4 ⟨rfl, hb4⟩
        have HB4 := hid (HB3.out.trans (hb4.mono HB3.out.size))
        have HL4 := hid (HL3.out.trans (hb4.mono HL3.out.size))
        clear hb4 HWo1
        go_wp2_with fail
        refine (HMof.out _).mono ?_
        rintro e w' ⟨rfl, rfl⟩
        go_wp2
        go_loop [16] (fun i => ∃ k : Nat, k ≤ cs.length ∧ i = .int .i64 k) (fun i => cs.length - (intOf i).toNat)
        case atStart => exact ⟨0, Nat.zero_le _, rfl⟩
        case round =>
          obtain ⟨k, hk, rfl⟩ := hrel
          by_cases hlt : k < cs.length
          · obtain ⟨b, off, rfl, _, hcell⟩ := HLC.out w4 HL4.out k (iv ((cs[k] : Nat) : Int)) (by rw [List.getElem?_map, List.getElem?_map, List.getElem?_eq_getElem hlt]; rfl)
            have hmod := HI3.out _ (List.getElem_mem hlt)
            have hx0 : (0 : Int) ≤ ((cs[k] : Nat) : Int) := by omega
            have hmod2 : ((cs[k] : Nat) : Int) % min 1024 h = 0 := by
              rw [← HGI.out]
              omega
            have hmin : (0 : Int) < min 1024 h := by omega
            unfold iv at hcell
            generalize ((cs[k] : Nat) : Int) = X at *
            clear hmod
            have HK := hid hlt
            go_wp2
            go_round
            case rel => exact ⟨k + 1, HK.out, by go_num⟩
            case measure =>
              have := HK.out
              simp [intOf]; omega
          · have HMa1 := hid (HMa.out w4 al cs.length cl (cs.map fun (x : Nat) => (x : Int)) HNb.out (by simp) (HLC.out w4 HL4.out))
            rw [if_pos ⟨HI1.out, HI2.out⟩] at HMa1
            obtain rfl : k = cs.length := by omega
            go_wp2_with fail
            refine HMa1.out.mono ?_
            rintro e w6 ⟨rfl, hb6⟩
            have HB6 := hid (HB4.out.trans (hb6.mono HB4.out.size))
            clear hb6
            go_wp2_with fail
            refine (HMi.out w6 HB6.out).mono ?_
            rintro e w7 ⟨rfl, hb7⟩
            have HB7 := hid (HB6.out.trans (hb7.mono HB6.out.size))
            clear hb7
            have hstr := run_str (P := Try.prog) w7 25 9 5 Try.underlying25 Try.underlying5 Try.underlying9 ab bs.length cb bs rfl (HCS.out w7 HB7.out)
            go_wp2_with fail
            refine (HW.out _).mono ?_
            rintro e w5 ⟨rfl, hb5⟩
            have HB9 := hid (HB1.out.trans ((HB7.out.trans (hb5.mono HB7.out.size)).mono HB1.out.size))
            clear hb5
            go_wp2
            go_ret
            exact ⟨rfl, HB9.out⟩
  | true =>
    go_enter Try.func3, Try.ntmps3
    go_wp2_with fail
    refine (HXf.out 60 (by omega)).mono ?_
    rintro e w1 ⟨vb, fine, bs, rfl, hs, hl, hb⟩
    obtain ⟨ab, cb, rfl, hnb, hcb, hab, hcell⟩ := hs.open
    have HB1 := hid (HB0.out.trans (hb.mono HB0.out.size))
    have HC := hid hcell
    clear hs hcell hb
    cases fine with
    | false =>
      go_wp2_with fail
      refine (HW.out _).mono ?_
      rintro e w5 ⟨rfl, hb5⟩
      go_wp2
      go_ret
      exact ⟨rfl, HB1.out.trans (hb5.mono HB1.out.size)⟩
    | true =>
      have hcb' := hcb
      unfold maxLen at hcb'
      have hstr := run_str (P := Try.prog) w1 25 9 5 Try.underlying25 Try.underlying5 Try.underlying9 ab bs.length cb bs rfl HC.out
      have hg0 := grainN_pos most
      have hgm := grainN_le most
      have hgi := grainN_eq most
      have hmi := mostN_eq most
      have hnpl := nPl_le bs.length (grainN most) hg0
      have HCut := hid (cuts_any ab cb most bs w1 (by omega) (by omega) hnb hcb HC.out)
      have hcl := cutsS_length bs (grainN most) (mostN most)
      obtain ⟨i1, i2, i3, i4⟩ := cutsS_ints bs (grainN most) (mostN most) hg0 hgm
      have HCS := hid (fun W (hW : Below w1.heap.size w1 W) j u hu => (show ∃ b off, ab = some ⟨b, off, none⟩ ∧ b < W.heap.size ∧ W.cell? ⟨b, off + j, none⟩ = some u from by
        obtain ⟨b, off, h1, h2, h3⟩ := HC.out j u hu
        exact ⟨b, off, h1, Nat.lt_of_lt_of_le h2 hW.size, (hW.cell (p := ⟨b, off + j, none⟩) h2).trans h3⟩))
      have HLe := hid (fun W (hW : Below w1.heap.size w1 W) => rleast_any ab cb (grainN most) (mostN most) most bs W (by omega) (by omega) hmi hgi hnb hcb (HCS.out W hW))
      have HMi := hid (fun W (hW : Below w1.heap.size w1 W) => mincost_any ab cb most bs W (by omega) (by omega) hnb hcb (HCS.out W hW))
      have HWo := hid (fun W (hW : Below w1.heap.size w1 W) a2 n2 c2 (cuts : List Int) (h1 : n2 ≤ 9000) h2 h3 => rworth_any ab a2 bs.length cb n2 c2 bs cuts W h1 rfl (by omega) h2 hnb hab (HCS.out W hW) h3)
      have HMa := hid (fun W a2 n2 c2 (cuts : List Int) (h1 : n2 ≤ 9000) h2 h3 => may_any (bs.length : Int) most a2 n2 c2 cuts W (by omega) (by omega) h2 (by unfold maxLen; omega) h3)
      have HNb := hid (show (cutsS bs (grainN most) (mostN most)).length ≤ 9000 from by
        rcases Nat.lt_or_ge (cutsS bs (grainN most) (mostN most)).length 9001 with h | h
        · omega
        · exfalso
          obtain ⟨cs, e1, e2⟩ := rise_nat bs.length _ 0 i1
          have hlen : cs.length = (cutsS bs (grainN most) (mostN most)).length := by
            have := congrArg List.length e1
            simpa using this.symm
          have hx := e2 9000 (cs[9000]'(by omega)) (by rw [List.getElem?_eq_getElem])
          have hk : ∀ k : Nat, k ≤ 9000 → k ≤ (cs.take k).getLastD 0 := by
            intro k
            induction k with
            | zero => intro _; exact Nat.zero_le _
            | succ k ih =>
              intro hk
              have h1 := e2 k (cs[k]'(by omega)) (by rw [List.getElem?_eq_getElem])
              have h2 := ih (by omega)
              rw [List.take_succ_eq_append_getElem (by omega)]
              simp only [List.getLastD_concat]
              omega
          have := hk 9000 (Nat.le_refl _)
          omega)
      rw [hmi] at i2
      generalize hw0 : (way bs (grainN most) (mostN most) (nPl bs.length (grainN most) - 1)).2 = W0 at *
      generalize cutsS bs (grainN most) (mostN most) = cs at *
      generalize grainN most = g at *
      have HI1 := hid i1
      have HI2 := hid i2
      have HI3 := hid i3
      have HI4 := hid i4
      clear i1 i2 i3 i4 hmi
      have HGI := hid hgi
      have HMof := HMo
      generalize heldI most = h at *
      clear hgi hw0
      go_wp2_with fail
      clear hstr
      refine HCut.out.mono ?_
      rintro e w2 ⟨vl, rfl, hsl, hb2⟩
      obtain ⟨al, cl, rfl, _, _, _, hlc⟩ := hsl.open
      have HLC := hid (fun W (hW : Below w2.heap.size w2 W) j u (hu : ((cs.map fun (x : Nat) => (x : Int)).map iv)[j]? = some u) => (show ∃ b off, al = some ⟨b, off, none⟩ ∧ b < W.heap.size ∧ W.cell? ⟨b, off + j, none⟩ = some u from by
        obtain ⟨b, off, h1, h2, h3⟩ := hlc j u (by rw [List.map_map] at hu; exact hu)
        exact ⟨b, off, h1, Nat.lt_of_lt_of_le h2 hW.size, (hW.cell (p := ⟨b, off + j, none⟩) h2).trans h3⟩))
      have HB2 := hid hb2
      clear hsl hlc hb2 HCut
      go_wp2_with fail
      refine (HLe.out w2 HB2.out).mono ?_
      rintro e w3 ⟨rfl, hb3⟩
      have HB3 := hid (HB2.out.trans (hb3.mono HB2.out.size))
      have HL3 := hid hb3
      clear hb3
      go_wp2_with fail
      have HWo1 := hid (HWo.out w3 HB3.out al cs.length cl (cs.map fun (x : Nat) => (x : Int)) HNb.out (by simp) (HLC.out w3 HL3.out))
      rw [HI1.out, if_pos rfl, if_pos rfl, HI4.out] at HWo1
      refine HWo1.out.mono ?_
      rintro e w4 ⟨rfl, hb4⟩
      have HB4 := hid (HB3.out.trans (hb4.mono HB3.out.size))
      have HL4 := hid (HL3.out.trans (hb4.mono HL3.out.size))
      clear hb4 HWo1
      go_wp2_with fail
      refine (HMof.out _).mono ?_
      rintro e w' ⟨rfl, rfl⟩
      go_wp2
      go_loop [16] (fun i => ∃ k : Nat, k ≤ cs.length ∧ i = .int .i64 k) (fun i => cs.length - (intOf i).toNat)
      case atStart => exact ⟨0, Nat.zero_le _, rfl⟩
      case round =>
        obtain ⟨k, hk, rfl⟩ := hrel
        by_cases hlt : k < cs.length
        · obtain ⟨b, off, rfl, _, hcell⟩ := HLC.out w4 HL4.out k (iv ((cs[k] : Nat) : Int)) (by rw [List.getElem?_map, List.getElem?_map, List.getElem?_eq_getElem hlt]; rfl)
          have hmod := HI3.out _ (List.getElem_mem hlt)
          have hx0 : (0 : Int) ≤ ((cs[k] : Nat) : Int) := by omega
          have hmod2 : ((cs[k] : Nat) : Int) % min 1024 h = 0 := by
            rw [← HGI.out]
            omega
          have hmin : (0 : Int) < min 1024 h := by omega
          unfold iv at hcell
          generalize ((cs[k] : Nat) : Int) = X at *
          clear hmod
          have HK := hid hlt
          go_wp2
          go_round
          case rel => exact ⟨k + 1, HK.out, by go_num⟩
          case measure =>
            have := HK.out
            simp [intOf]; omega
        · have HMa1 := hid (HMa.out w4 al cs.length cl (cs.map fun (x : Nat) => (x : Int)) HNb.out (by simp) (HLC.out w4 HL4.out))
          rw [if_pos ⟨HI1.out, HI2.out⟩] at HMa1
          obtain rfl : k = cs.length := by omega
          go_wp2_with fail
          refine HMa1.out.mono ?_
          rintro e w6 ⟨rfl, hb6⟩
          have HB6 := hid (HB4.out.trans (hb6.mono HB4.out.size))
          clear hb6
          go_wp2_with fail
          refine (HMi.out w6 HB6.out).mono ?_
          rintro e w7 ⟨rfl, hb7⟩
          have HB7 := hid (HB6.out.trans (hb7.mono HB6.out.size))
          clear hb7
          have hstr := run_str (P := Try.prog) w7 25 9 5 Try.underlying25 Try.underlying5 Try.underlying9 ab bs.length cb bs rfl (HCS.out w7 HB7.out)
          go_wp2_with fail
          refine (HW.out _).mono ?_
          rintro e w5 ⟨rfl, hb5⟩
          have HB9 := hid (HB1.out.trans ((HB7.out.trans (hb5.mono HB7.out.size)).mono HB1.out.size))
          clear hb5
          go_wp2
          go_ret
          exact ⟨rfl, HB9.out⟩
end Go.Proofs.Ytadnhjloeaddnaa
namespace Go.Proofs.Ytadnhjloeaddnaa.LSplitCuts
open Go.ChangeShapes Go.WideShapes Go.ChangeAt Go.RowKit Go.Port

set_option maxRecDepth 100000 in
theorem lifted (os : Os) (started : os.Started) (H : Type) (enc : TypeId × Value → H) :
    ReturnsInHanded {} Try.checked os 3 .any (Rows.splitCutsSpec.pre6 enc Try.prog Try.f3 Rows.splitCutsRow.domain false) (Rows.splitCutsSpec.post enc Try.prog Try.f3 false true false false) := by
  refine returnsInHanded_of_change (C := Try.checked) Try.own started (by kernel_rfl) Try.func3
    (ChangeSpec.witness6 (enc := enc) (C := Try.checked) false ⟨#[], #[.agg #[.slice none 0 0], .int .i64 0, .bool false], []⟩ 8 (by kernel_rfl) (by kernel_rfl) (by kernel_rfl) (by kernel_rfl)) ?_
  intro W base args ds gs before hval0 hW hcnd _
  have hval : ∀ (j : Nat) t v, Try.f3.params[j]? = some t → args[j]? = some v → Value.okWide Try.prog W .any base t v := hval0
  have hW' := hW
  obtain ⟨p, q, hA0, hV, rfl, hfz, hnd⟩ := hW
  have hA : DataW.TrodAll enc Try.prog W 0 (fun _ => true) true Try.f3.params.toList args.toList ds p := hA0
  rw [Try.params3] at hA hval
  obtain ⟨v0, vs0, d0, ds0, p0, q0, hargs, rfl, rfl, h0, r0⟩ := trodAll_cons hA
  obtain ⟨v1, vs1, d1, ds1, p1, q1, rfl, rfl, rfl, h1, r1⟩ := trodAll_cons r0
  obtain ⟨v2, vs2, d2, ds2, p2, q2, rfl, rfl, rfl, h2, r2⟩ := trodAll_cons r1
  obtain ⟨rfl, rfl, rfl⟩ := trodAll_nil r2
  obtain rfl : args = #[v0, v1, v2] := by cases args; simp_all
  obtain ⟨rfl, rfl⟩ := trodVars_none hV
  have hl0 := open_text (hval 0 24 v0 rfl rfl) h0
  obtain ⟨a1, rfl, rfl, rfl, w1⟩ := open_int Try.underlying3 (hval 1 3 v1 rfl rfl) h1
  obtain ⟨a2, rfl, rfl, rfl⟩ := open_bool Try.underlying4 (hval 2 4 v2 rfl rfl) h2
  clear hA0 hval0
  simp only [List.append_nil] at hW'
  refine (SplitCuts_walk W v0 hl0 a1 (bounds_i64 w1) a2).mono fun e W' ⟨he, hb⟩ => ?_
  subst he
  exact ⟨_, rfl, law_post Try.kids Try.full Try.underlying4 rfl rfl hW' (by rw [Try.params3]; decide) rfl rfl rfl hb⟩

theorem over : Rows.splitCutsRow.holds Try.pinned (OpenSpec.ofChange Rows.splitCutsSpec) :=
  OpenClaim.holds_of_wide 3 Try.f3 rfl rfl rfl rfl rfl rfl rfl ⟨rfl, rfl, rfl, rfl, rfl⟩ rfl rfl rfl rfl rfl (by kernel_rfl) Try.func3 (by kernel_rfl)
    (of_decide_eq_true (by kernel_rfl)) (by unfold Func.isWrapper; first | (rw [if_pos (by decide +kernel)]; kernel_rfl) | (rw [if_neg (by decide +kernel)]; exact ⟨rfl, rfl⟩))
    (fun os started H enc _ => lifted os started H enc)

/-- The statement. -/
theorem proved : Rows.SplitCutsSaid :=
  over
end Go.Proofs.Ytadnhjloeaddnaa.LSplitCuts
