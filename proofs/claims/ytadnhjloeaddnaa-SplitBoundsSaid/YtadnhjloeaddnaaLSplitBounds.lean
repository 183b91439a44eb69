/-
  The law SplitBounds: large data of two kinds, of at most 200000 bytes, and any maximum above 65536: the cut points cost what MinCost says, the check accepts them, and they cost no more than equal parts where the clamped maximum is a multiple of 1024. No condition.
-/
import Derived.Test.YtadnhjloeaddnaaSplitP
import Derived.Test.YtadnhjloeaddnaaLSplitEven
import Derived.Test.YtadnhjloeaddnaaLaw
import Derived.Test.YtadnhjloeaddnaaSplitS
namespace Go.Port
open Go.RowKit

theorem Blk.setByte {w : World} {b : Nat} {bs : List UInt8} {t : TypeId} (h : Blk w b (bs.map bv) t) (k : Nat) (y : Int) (h0 : 0 ≤ y) (h1 : y ≤ 255) :
    ∃ bs' : List UInt8, bs'.length = bs.length ∧ Blk (w.setCell ⟨b, k, none⟩ (.int .u8 y)) b (bs'.map bv) t := by
  refine ⟨bs.set k (UInt8.ofNat y.toNat), by simp, ?_⟩
  have := h.set k (.int .u8 y)
  rw [List.map_set]
  have e : bv (UInt8.ofNat y.toNat) = .int .u8 y := by
    unfold bv
    simp only [UInt8.toNat_ofNat']
    congr 1
    omega
  rw [e]
  exact this

theorem made_bytes (n : Nat) : (madeCells #[Value.int .u8 0] n).toList = (List.replicate n (0 : UInt8)).map bv := by
  apply List.ext_getElem?
  intro j
  simp only [madeCells, Array.toList_map, Array.toList_range, List.getElem?_map, List.getElem?_replicate]
  by_cases h : j < n
  · rw [List.getElem?_range h, if_pos h]
    simp [Nat.mod_one, bv]
  · rw [if_neg h, List.getElem?_eq_none (by simpa using h)]
    rfl

/-- Equal parts of a multiple of the grain are no better. -/
theorem eq_worse (bs : List UInt8) (g m : Nat) (h : Int) (hg : 0 < g) (hgm : g ≤ m) (hm : (m : Int) = h) (hh : 1 ≤ h) (hmod : h % (g : Int) = 0) (hN : ¬ 65536 < eqN (bs.length : Int) h) :
    (way bs g m (nPl bs.length g - 1)).2 ≤ worthGo bs 0 (eqCuts (bs.length : Int) h ++ [(bs.length : Int)]) := by
  obtain ⟨h1, h2⟩ := eqCuts_fine (bs.length : Int) h hh hN
  rw [show max 0 (bs.length : Int) = (bs.length : Int) from by omega] at h1 h2
  have h2' : mayB (m : Int) (bs.length : Int) 0 (eqCuts (bs.length : Int) h) = true := by
    rw [hm]
    exact h2
  obtain ⟨ds, e, hG⟩ := good_of_ints bs g m (eqCuts (bs.length : Int) h) 0 h1 h2' (fun c hc => by
    unfold eqCuts at hc
    rw [if_neg hN] at hc
    unfold eqL at hc
    obtain ⟨j, _, rfl⟩ := List.mem_map.1 hc
    rw [Int.mul_emod, hmod]
    simp)
  rw [e]
  have hw := worthGo_nat bs 0 (ds ++ [bs.length])
  rw [List.map_append] at hw
  have hw' : worthGo bs 0 ((ds.map fun (c : Nat) => (c : Int)) ++ [(bs.length : Int)]) = pathCost bs 0 (ds ++ [bs.length]) := hw
  rw [hw']
  exact opt bs g m hg hgm ds hG
end Go.Port
namespace Go.Proofs.Ytadnhjloeaddnaa
open Go.RowKit Go.Port

set_option maxRecDepth 100000 in
set_option maxHeartbeats 4000000 in
theorem SplitBounds_walk (w : World) (size : Int) (_ : -9223372036854775808 ≤ size ∧ size ≤ 9223372036854775807) (change : Int) (hch : -9223372036854775808 ≤ change ∧ change ≤ 9223372036854775807) (most : Int) (_ : -9223372036854775808 ≤ most ∧ most ≤ 9223372036854775807) :
    Calls Try.prog 9 #[.int .i64 size, .int .i64 change, .int .i64 most] w (RetV w (.bool true)) := by
  have HW := hid works_any
  by_cases c1 : size < 0
  · go_enter Try.func9, Try.ntmps9
    go_wp2_with (go_at_call 12; refine (HW.out _).mono ?_; rintro e w' ⟨rfl, hb⟩)
    go_ret
    exact ⟨rfl, hb⟩
  by_cases c2 : 200000 < size
  · go_enter Try.func9, Try.ntmps9
    go_wp2_with (go_at_call 12; refine (HW.out _).mono ?_; rintro e w' ⟨rfl, hb⟩)
    go_ret
    exact ⟨rfl, hb⟩
  by_cases c3 : change < 0
  · go_enter Try.func9, Try.ntmps9
    go_wp2_with (go_at_call 12; refine (HW.out _).mono ?_; rintro e w' ⟨rfl, hb⟩)
    go_ret
    exact ⟨rfl, hb⟩
  by_cases c4 : most ≤ 65536
  · go_enter Try.func9, Try.ntmps9
    go_wp2_with (go_at_call 12; refine (HW.out _).mono ?_; rintro e w' ⟨rfl, hb⟩)
    go_ret
    exact ⟨rfl, hb⟩
  obtain ⟨N, rfl⟩ : ∃ N : Nat, size = (N : Int) := ⟨size.toNat, by omega⟩
  have hN : N ≤ 200000 := by omega
  have hmk0 := run_make_cells 25 5 _ 1 1 Try.underlying25 Try.info_byte N (by omega) (by omega) w
  rw [Nat.mul_one] at hmk0
  have hmk1 : (Value.int .u8 0).cells = #[Value.int .u8 0] := rfl
  rw [hmk1] at hmk0
  clear hmk1
  have hA0 : Blk (w.alloc (.cells (madeCells #[Value.int .u8 0] N) 5)) w.heap.size ((List.replicate N (0 : UInt8)).map bv) 5 := by
    have h1 := Blk.new w (madeCells #[Value.int .u8 0] N).toList 5
    rw [Array.toArray_toList, made_bytes] at h1
    exact h1
  have HA0 := hid hA0
  have HB0 := hid (below_new w (.cells (madeCells #[Value.int .u8 0] N) 5))
  clear hA0
  go_enter Try.func9, Try.ntmps9
  go_wp2
  go_loopw [8] (fun i wr => ∃ (k : Nat) (bs : List UInt8), k ≤ N ∧ i = .int .i64 k ∧ Hid (bs.length = N) ∧ Blk wr w.heap.size (bs.map bv) 5 ∧ Below w.heap.size w wr) (fun i _ => N - (intOf i).toNat)
  case atStart => exact ⟨0, _, Nat.zero_le _, rfl, hid (by simp), HA0.out, HB0.out⟩
  case round =>
    obtain ⟨k, bs, hk, rfl, HN, hA, hB⟩ := hrel
    by_cases hlt : k < N
    · have hu := hA.cell (k := k) (u := bv (bs[k]'(by rw [HN.out]; exact hlt))) (by rw [List.getElem?_map, List.getElem?_eq_getElem]; rfl)
      have hz := hA.frozen k
      unfold bv at hu
      have HK := hid hlt
      have HA := hid hA
      have HB := hid hB
      clear hA hB
      by_cases hc : change ≤ (k : Int)
      · go_wp2
        go_roundw
        case rel =>
          obtain ⟨bs1, e1, h1⟩ := HA.out.setByte k ((k : Int) % 16) (by omega) (by omega)
          obtain ⟨bs2, e2, h2⟩ := h1.setByte k (100 + (k : Int) % 3) (by omega) (by omega)
          exact ⟨k + 1, bs2, HK.out, by go_num, hid (e2.trans (e1.trans HN.out)), h2, (HB.out.setCell (p := ⟨w.heap.size, k, none⟩) (Nat.le_refl _) _).setCell (Nat.le_refl _) _⟩
        case measure =>
          have := HK.out
          simp [intOf]; omega
      · go_wp2
        go_roundw
        case rel =>
          obtain ⟨bs1, e1, h1⟩ := HA.out.setByte k ((k : Int) % 16) (by omega) (by omega)
          exact ⟨k + 1, bs1, HK.out, by go_num, hid (e1.trans HN.out), h1, HB.out.setCell (Nat.le_refl _) _⟩
        case measure =>
          have := HK.out
          simp [intOf]; omega
    · obtain rfl : k = N := by omega
      have hh := heldI_bounds most
      have hN2 := HN.out
      have hat := hA.at'
      have hmi := mostN_eq most
      have hgi := grainN_eq most
      have hg0 := grainN_pos most
      have hgm := grainN_le most
      have h6 : 65537 ≤ heldI most := by unfold heldI; omega
      have hgn : grainN most = 1024 := by omega
      have hnpl : nPl bs.length (grainN most) ≤ 9001 := by
        rw [hgn, hN2]
        unfold nPl
        omega
      have heN : eqN (k : Int) (heldI most) ≤ 4 := by
        unfold eqN
        split
        · omega
        · have : ((k : Int) - 1) / heldI most < 4 := Int.ediv_lt_of_lt_mul (by omega) (by omega)
          omega
      have heq := eqCuts_fine (k : Int) (heldI most) hh.1 (by omega)
      rw [show max 0 (k : Int) = (k : Int) from by omega] at heq
      have hel : (eqCuts (k : Int) (heldI most)).length ≤ 9000 := by
        unfold eqCuts
        rw [if_neg (by omega), eqL_length]
        omega
      have hworse : heldI most % 1024 = 0 → (way bs (grainN most) (mostN most) (nPl bs.length (grainN most) - 1)).2 ≤ worthGo bs 0 (eqCuts (k : Int) (heldI most) ++ [(k : Int)]) := fun hmod => by
        have := eq_worse bs (grainN most) (mostN most) (heldI most) hg0 hgm hmi hh.1 (by rw [hgn]; exact hmod) (by rw [hN2]; omega)
        rw [hN2] at this
        rw [hN2]
        exact this
      obtain ⟨i1, i2, _, i4⟩ := cutsS_ints bs (grainN most) (mostN most) hg0 hgm
      have hcl := cutsS_length bs (grainN most) (mostN most)
      rw [hmi] at i2
      rw [hN2] at i1 i2 i4
      have HCS := hid (fun W (hW : Below wr.heap.size wr W) j u (hu : (bs.map bv)[j]? = some u) => (show ∃ b off, (some ⟨w.heap.size, 0, none⟩ : Option Addr) = some ⟨b, off, none⟩ ∧ b < W.heap.size ∧ W.cell? ⟨b, off + j, none⟩ = some u from by
        obtain ⟨b, off, h1, h2, h3⟩ := hat j u hu
        exact ⟨b, off, h1, Nat.lt_of_lt_of_le h2 hW.size, (hW.cell (p := ⟨b, off + j, none⟩) h2).trans h3⟩))
      have HCut := hid (cuts_any (some ⟨w.heap.size, 0, none⟩) bs.length most bs wr (by omega) hnpl (Nat.le_refl _) (by unfold maxLen; omega) hat)
      have HMi := hid (fun W (hW : Below wr.heap.size wr W) => mincost_any (some ⟨w.heap.size, 0, none⟩) bs.length most bs W (by omega) hnpl (Nat.le_refl _) (by unfold maxLen; omega) (HCS.out W hW))
      rw [hN2] at HCut HMi
      have HCo := hid (fun W (hW : Below wr.heap.size wr W) a2 n2 c2 (cuts : List Int) (h1 : n2 ≤ 9000) h2 h3 h4 h5 => cost_any (some ⟨w.heap.size, 0, none⟩) a2 k k n2 c2 bs cuts W h1 hN2 hN h2 (Nat.le_refl _) (fun h => by cases h) h3 h4 (HCS.out W hW) h5)
      have HCh := hid (fun W a2 n2 c2 (cuts : List Int) (h1 : n2 ≤ 9000) h2 h3 => check_any (k : Int) most a2 n2 c2 cuts W (by omega) (by omega) h2 (by unfold maxLen; omega) h3)
      have HEq := hid (fun W => eqcuts_any (k : Int) most W (by omega) (by omega))
      have HMo := hid (fun W => most_any most W)
      have hcl9 : (cutsS bs (grainN most) (mostN most)).length ≤ 9000 := by
        rw [hgn] at hcl ⊢
        rw [hN2] at hcl
        unfold nPl at hcl
        omega
      rw [hN2] at hworse
      generalize (way bs (grainN most) (mostN most) (nPl k (grainN most) - 1)).2 = W0 at *
      generalize cutsS bs (grainN most) (mostN most) = cs at *
      generalize heldI most = h at *
      generalize eqCuts (k : Int) h = es at *
      generalize hWE : worthGo bs 0 (es ++ [(k : Int)]) = WE at *
      have HI := hid (And.intro i1 (And.intro i2 i4))
      have HE := hid heq
      have HWorse := hid hworse
      have HWE := hid hWE
      have HBr := hid hB
      clear i1 i2 i4 heq hworse hWE hN2 hmi hgi hgn hnpl heN hcl hat hA hB HN
      go_wp2_with fail
      refine HCut.out.mono ?_
      rintro e w2 ⟨vl, rfl, hsl, hb2⟩
      obtain ⟨al, cl, rfl, hl1, _, hl3, hlc⟩ := hsl.open
      have HLC := hid (fun W (hW : Below w2.heap.size w2 W) j u (hu : ((cs.map fun (x : Nat) => (x : Int)).map iv)[j]? = some u) => (show ∃ b off, al = some ⟨b, off, none⟩ ∧ b < W.heap.size ∧ W.cell? ⟨b, off + j, none⟩ = some u from by
        obtain ⟨b, off, h1, h2, h3⟩ := hlc j u (by rw [List.map_map] at hu; exact hu)
        exact ⟨b, off, h1, Nat.lt_of_lt_of_le h2 hW.size, (hW.cell (p := ⟨b, off + j, none⟩) h2).trans h3⟩))
      have HB2 := hid hb2
      have HC1 := hid (HCo.out w2 hb2 al cs.length cl (cs.map fun (x : Nat) => (x : Int)) hcl9 (by simp) hl1 hl3 (HLC.out w2 (Below.refl _ _)))
      rw [HI.out.1, if_pos rfl, if_pos rfl, HI.out.2.2] at HC1
      clear hsl hlc hb2 HCut
      go_wp2_with fail
      refine HC1.out.mono ?_
      rintro e w3 ⟨rfl, hb3⟩
      have HB3 := hid (HB2.out.trans (hb3.mono HB2.out.size))
      have HL3 := hid hb3
      clear hb3 HC1
      go_wp2_with fail
      refine (HEq.out w3).mono ?_
      rintro e w4 ⟨ve, rfl, hse, hb4⟩
      obtain ⟨ae, ce, rfl, he1, _, he3, hec⟩ := hse.open
      have HB4 := hid (HB3.out.trans (hb4.mono HB3.out.size))
      have HL4 := hid (HL3.out.trans (hb4.mono HL3.out.size))
      have HC2 := hid (HCo.out w4 HB4.out ae es.length ce es hel rfl he1 he3 hec)
      rw [HE.out.1, if_pos rfl, if_pos rfl, HWE.out] at HC2
      clear hse hec hb4
      go_wp2_with fail
      refine HC2.out.mono ?_
      rintro e w5 ⟨rfl, hb5⟩
      have HB5 := hid (HB4.out.trans (hb5.mono HB4.out.size))
      have HL5 := hid (HL4.out.trans (hb5.mono HL4.out.size))
      clear hb5 HC2
      go_wp2_with fail
      refine (num_any _ _).mono ?_
      rintro e w' ⟨rfl, rfl⟩
      go_wp2_with fail
      refine (num_any _ _).mono ?_
      rintro e w' ⟨rfl, rfl⟩
      have HK1 := hid (HCh.out w5 al cs.length cl (cs.map fun (x : Nat) => (x : Int)) hcl9 (by simp) (HLC.out w5 HL5.out))
      rw [show max 0 (k : Int) = (k : Int) from by omega, if_pos ⟨HI.out.1, HI.out.2.1⟩] at HK1
      go_wp2_with fail
      refine HK1.out.mono ?_
      rintro e w6 ⟨rfl, hb6⟩
      have HB6 := hid (HB5.out.trans (hb6.mono HB5.out.size))
      clear hb6 HK1
      go_wp2_with fail
      refine (num_any _ _).mono ?_
      rintro e w' ⟨rfl, rfl⟩
      go_wp2_with fail
      refine (HMi.out w6 HB6.out).mono ?_
      rintro e w7 ⟨rfl, hb7⟩
      have HB7 := hid (HB6.out.trans (hb7.mono HB6.out.size))
      clear hb7
      by_cases hle : W0 ≤ WE
      · go_wp2_with fail
        refine (HW.out _).mono ?_
        rintro e w9 ⟨rfl, hb9⟩
        have HB9 := hid (HBr.out.trans ((HB7.out.trans (hb9.mono HB7.out.size)).mono HBr.out.size))
        clear hb9
        go_wp2
        go_ret
        exact ⟨rfl, HB9.out⟩
      · have hmod : ¬ h % 1024 = 0 := fun hx => hle (HWorse.out hx)
        go_wp2_with fail
        refine (HMo.out _).mono ?_
        rintro e w' ⟨rfl, rfl⟩
        go_wp2_with fail
        refine (HW.out _).mono ?_
        rintro e w9 ⟨rfl, hb9⟩
        have HB9 := hid (HBr.out.trans ((HB7.out.trans (hb9.mono HB7.out.size)).mono HBr.out.size))
        clear hb9
        go_wp2
        go_ret
        refine ⟨?_, HB9.out⟩
        have hv : (decide (W0 ≤ WE) || h % 1024 != 0) = true := by simp [hmod]
        show Ending.returned (.bool (decide (W0 ≤ WE) || h % 1024 != 0)) = _
        rw [hv]
end Go.Proofs.Ytadnhjloeaddnaa
namespace Go.Proofs.Ytadnhjloeaddnaa.LSplitBounds
open Go.ChangeShapes Go.WideShapes Go.ChangeAt Go.RowKit Go.Port

set_option maxRecDepth 100000 in
theorem lifted (os : Os) (started : os.Started) (H : Type) (enc : TypeId × Value → H) :
    ReturnsInHanded {} Try.checked os 9 .any (Rows.splitBoundsSpec.pre6 enc Try.prog Try.f9 Rows.splitBoundsRow.domain false) (Rows.splitBoundsSpec.post enc Try.prog Try.f9 false true false false) := by
  refine returnsInHanded_of_change (C := Try.checked) Try.own started (by kernel_rfl) Try.func9
    (ChangeSpec.witness6 (enc := enc) (C := Try.checked) false ⟨#[], #[.int .i64 0, .int .i64 0, .int .i64 0], []⟩ 8 (by kernel_rfl) (by kernel_rfl) (by kernel_rfl) (by kernel_rfl)) ?_
  intro W base args ds gs before hval0 hW hcnd _
  have hval : ∀ (j : Nat) t v, Try.f9.params[j]? = some t → args[j]? = some v → Value.okWide Try.prog W .any base t v := hval0
  have hW' := hW
  obtain ⟨p, q, hA0, hV, rfl, hfz, hnd⟩ := hW
  have hA : DataW.TrodAll enc Try.prog W 0 (fun _ => true) true Try.f9.params.toList args.toList ds p := hA0
  rw [Try.params9] at hA hval
  obtain ⟨v0, vs0, d0, ds0, p0, q0, hargs, rfl, rfl, h0, r0⟩ := trodAll_cons hA
  obtain ⟨v1, vs1, d1, ds1, p1, q1, rfl, rfl, rfl, h1, r1⟩ := trodAll_cons r0
  obtain ⟨v2, vs2, d2, ds2, p2, q2, rfl, rfl, rfl, h2, r2⟩ := trodAll_cons r1
  obtain ⟨rfl, rfl, rfl⟩ := trodAll_nil r2
  obtain rfl : args = #[v0, v1, v2] := by cases args; simp_all
  obtain ⟨rfl, rfl⟩ := trodVars_none hV
  obtain ⟨a0, rfl, rfl, rfl, w0⟩ := open_int Try.underlying3 (hval 0 3 v0 rfl rfl) h0
  obtain ⟨a1, rfl, rfl, rfl, w1⟩ := open_int Try.underlying3 (hval 1 3 v1 rfl rfl) h1
  obtain ⟨a2, rfl, rfl, rfl, w2⟩ := open_int Try.underlying3 (hval 2 3 v2 rfl rfl) h2
  clear hA0 hval0
  simp only [List.append_nil] at hW'
  refine (SplitBounds_walk W a0 (bounds_i64 w0) a1 (bounds_i64 w1) a2 (bounds_i64 w2)).mono fun e W' ⟨he, hb⟩ => ?_
  subst he
  exact ⟨_, rfl, law_post Try.kids Try.full Try.underlying4 rfl rfl hW' (by rw [Try.params9]; decide) rfl rfl rfl hb⟩

theorem over : Rows.splitBoundsRow.holds Try.pinned (OpenSpec.ofChange Rows.splitBoundsSpec) :=
  OpenClaim.holds_of_wide 9 Try.f9 rfl rfl rfl rfl rfl rfl rfl ⟨rfl, rfl, rfl, rfl, rfl⟩ rfl rfl rfl rfl rfl (by kernel_rfl) Try.func9 (by kernel_rfl)
    (of_decide_eq_true (by kernel_rfl)) (by unfold Func.isWrapper; first | (rw [if_pos (by decide +kernel)]; kernel_rfl) | (rw [if_neg (by decide +kernel)]; exact ⟨rfl, rfl⟩))
    (fun os started H enc _ => lifted os started H enc)

/-- The statement. -/
theorem proved : Rows.SplitBoundsSaid :=
  over
end Go.Proofs.Ytadnhjloeaddnaa.LSplitBounds
