/-
  The law SplitHolds, the stage's theorem: for any text (of which 6000 bytes are used) and any maximum from 200 on the cut points cost no more than equal parts or a single part; removing or moving one of them does not reduce the cost; the parts are not empty and make up the data. No condition.
-/
import Derived.Test.YtadnhjloeaddnaaSplitU
import Derived.Deep.CutRange
import Derived.Deep.RegionHeld3
namespace Go.Proofs.Ytadnhjloeaddnaa
open Go.RowKit Go.Port

attribute [local go_sem] Oper.semAt_some

set_option maxRecDepth 1000000 in
set_option maxHeartbeats 8000000 in
theorem SplitHolds_walk (w : World) (v : Value) (hv : TextAt w v) (most : Int) (_ : -9223372036854775808 ≤ most ∧ most ≤ 9223372036854775807) (which : Int) (hwh : 0 ≤ which ∧ which ≤ 255) (by_ : Int) (hby : 0 ≤ by_ ∧ by_ ≤ 255) :
    Calls Try.prog 10 #[v, .int .i64 most, .int .u8 which, .int .u8 by_] w (RetV w (.bool true)) := by
  obtain ⟨a, n, c, rfl, hnc, hcm, hel⟩ := hv
  have s1 : (w.alloc (.cells #[.slice a n c] 24)).heap.size = w.heap.size + 1 := by simp
  have hB0 : Below w.heap.size w ((w.alloc (.cells #[.slice a n c] 24)).alloc (.cells #[.bool false] 4)) := (below_new w _).alloc (by omega) _
  have hR0 : Blk ((w.alloc (.cells #[.slice a n c] 24)).alloc (.cells #[.bool false] 4)) (w.heap.size + 1) [.bool false] 4 := by
    have := Blk.new (w.alloc (.cells #[.slice a n c] 24)) [.bool false] 4
    rwa [s1] at this
  have HX := hid (bytes_any ((w.alloc (.cells #[.slice a n c] 24)).alloc (.cells #[.bool false] 4)) (.agg #[.slice a n c]) 6000 (by omega) ⟨a, n, c, rfl, hnc, hcm, fun i hi => by
    obtain ⟨b, off, vb, bs, m, h1, h2, h3, h4, h5, h6⟩ := hel i hi
    exact ⟨b, off, vb, bs, m, h1, Nat.lt_of_lt_of_le h2 hB0.size, (hB0.cell (p := ⟨b, off + i * 2, none⟩) h2).trans h3, (hB0.cell (p := ⟨b, off + i * 2 + 1, none⟩) h2).trans h4, by
      obtain ⟨k0, k1, k2, k3, k4, k5, k6, k7⟩ := h5
      refine ⟨k0, k1, k2, k3, k4, k5, k6, fun j u hu => ?_⟩
      obtain ⟨b', off', l1, l2, l3⟩ := k7 j u hu
      exact ⟨b', off', l1, Nat.lt_of_lt_of_le l2 hB0.size, (hB0.cell (p := ⟨b', off' + j, none⟩) l2).trans l3⟩, h6⟩⟩)
  have HS0 := hid (StH.mk hR0 hB0)
  have HW := hid works_any
  have hh := heldI_bounds most
  clear hel hB0 hR0 s1
  refine (callsIn_wide (n := 1)).1 ?_
  refine callsIn_of_wp_marks Try.func10 rfl trivial ?_ rfl
  simp only [Try.ntmps10, List.size_toArray, List.length_cons, List.length_nil, Nat.reduceAdd, Nat.reduceSub, Array.replicate_succ, Array.replicate_zero, List.push_toArray, List.append_toArray, List.nil_append, List.cons_append]
  refine wpIn_wide.2 ?_
  go_wp2_with fail
  refine HX.out.mono ?_
  rintro e w1 ⟨vb, fine, bs, rfl, hs, hl, hb⟩
  obtain ⟨ab, cb, rfl, hnb, hcb, hab, hcell⟩ := hs.open
  have HS1 := hid (HS0.out.low hb)
  have HC := hid hcell
  clear hs hcell hb HS0
  cases fine with
  | false =>
    have hr1 := HS1.out.res.cell (k := 0) rfl
    have hz1 := HS1.out.res.frozen 0
    go_wp2_with fail
    refine (HW.out _).mono ?_
    rintro e w5 ⟨rfl, hb5⟩
    have HS5 := hid (HS1.out.low hb5)
    have hr5 := HS5.out.res.cell (k := 0) rfl
    have hz5 := HS5.out.res.frozen 0
    clear hr1 hz1 hb5
    go_wp2
    have hrr := (HS5.out.res.set 0 (.bool true)).cell (k := 0) rfl
    exact ⟨.bool true, by simp [results, Try.results10, go_sem, hr5], rfl, HS5.out.below.setCell (Nat.le_succ _) _⟩
  | true =>
    by_cases h200 : most < 200
    · have hr1 := HS1.out.res.cell (k := 0) rfl
      have hz1 := HS1.out.res.frozen 0
      go_wp2_with fail
      refine (HW.out _).mono ?_
      rintro e w5 ⟨rfl, hb5⟩
      have HS5 := hid (HS1.out.low hb5)
      have hr5 := HS5.out.res.cell (k := 0) rfl
      have hz5 := HS5.out.res.frozen 0
      clear hr1 hz1 hb5
      go_wp2
      have hrr := (HS5.out.res.set 0 (.bool true)).cell (k := 0) rfl
      exact ⟨.bool true, by simp [results, Try.results10, go_sem, hr5], rfl, HS5.out.below.setCell (Nat.le_succ _) _⟩
    · have hcb' := hcb
      unfold maxLen at hcb'
      have hg0 := grainN_pos most
      have hgm := grainN_le most
      have hgi := grainN_eq most
      have hmi := mostN_eq most
      have hnpl := nPl_le bs.length (grainN most) hg0
      have HCut := hid (cuts_any ab cb most bs w1 (by omega) (by omega) hnb hcb HC.out)
      obtain ⟨i1, i2, i3, i4⟩ := cutsS_ints bs (grainN most) (mostN most) hg0 hgm
      have hcl := cutsS_length bs (grainN most) (mostN most)
      have HCS := fun W (hW : Below w1.heap.size w1 W) j u hu => (show ∃ b off, ab = some ⟨b, off, none⟩ ∧ b < W.heap.size ∧ W.cell? ⟨b, off + j, none⟩ = some u from by
        obtain ⟨b, off, h1, h2, h3⟩ := HC.out j u hu
        exact ⟨b, off, h1, Nat.lt_of_lt_of_le h2 hW.size, (hW.cell (p := ⟨b, off + j, none⟩) h2).trans h3⟩)
      have hopt := fun cuts h1 h2 h3 => opt_ints bs (grainN most) (mostN most) hg0 hgm cuts h1 h2 h3
      rw [hmi] at hopt i2
      have hgr : min 1024 most = (grainN most : Int) := by
        rw [hgi]
        unfold heldI
        omega
      have hgd : (grainN most : Int) ≤ 1024 := by omega
      have hmm : min most 131072 = heldI most := by unfold heldI; omega
      have hmodq : heldI most % (grainN most : Int) = 0 → ∀ c ∈ eqCuts (bs.length : Int) (heldI most), c % (grainN most : Int) = 0 := fun h => eq_mods _ _ _ h
      have heN : eqN (bs.length : Int) (heldI most) ≤ 6000 := by
        unfold eqN
        split
        · omega
        · have : ((bs.length : Int) - 1) / heldI most ≤ (bs.length : Int) - 1 := Int.ediv_le_self _ (by omega)
          omega
      have hel : (eqCuts (bs.length : Int) (heldI most)).length ≤ 9000 := by
        unfold eqCuts
        rw [if_neg (by omega), eqL_length]
        omega
      have heq := eqCuts_fine (bs.length : Int) (heldI most) hh.1 (by omega)
      rw [show max 0 (bs.length : Int) = (bs.length : Int) from by omega] at heq
      have HEq := hid (fun W => eqcuts_any (bs.length : Int) most W (by omega) (by omega))
      have HBoth := hid (fun cuts h1 h2 => both_any bs ab cb most (way bs (grainN most) (mostN most) (nPl bs.length (grainN most) - 1)).2 w1 (by omega) hnb hab HCS cuts h1 h2)
      have HParts := hid (fun W (hW : Below w1.heap.size w1 W) a2 n2 c2 cuts h1 h2 h3 h4 h5 => parts_any ab a2 bs.length cb n2 c2 bs cuts W h1 rfl (by omega) h2 hnb hab h3 h4 (HCS W hW) h5)
      have HCo := hid (fun W (hW : Below w1.heap.size w1 W) a2 n2 c2 (cuts : List Int) (h1 : n2 ≤ 9000) h2 h3 h4 h5 => cost_any ab a2 bs.length cb n2 c2 bs cuts W h1 rfl (by omega) h2 hnb hab h3 h4 (HCS W hW) h5)
      have HCh := hid (fun W a2 n2 c2 (cuts : List Int) (h1 : n2 ≤ 9000) h2 h3 => check_any (bs.length : Int) most a2 n2 c2 cuts W (by omega) (by omega) h2 (by unfold maxLen; omega) h3)
      have HCSh := hid HCS
      have hcl9 : (cutsS bs (grainN most) (mostN most)).length ≤ 6001 := by
        omega
      generalize (way bs (grainN most) (mostN most) (nPl bs.length (grainN most) - 1)).2 = W0 at *
      generalize hcsd : cutsS bs (grainN most) (mostN most) = cs at *
      generalize grainN most = g at *
      generalize hhd : heldI most = h at *
      generalize hesd : eqCuts (bs.length : Int) h = es at *
      have HI := hid (And.intro i1 (And.intro i2 (And.intro i3 i4)))
      have HOpt := hid hopt
      have HGr := hid hgr
      have HMm := hid hmm
      have HMod := hid hmodq
      have HE0 := hid hel
      have HEF := hid heq
      clear i1 i2 i3 i4 heq hopt hmm hmodq hel hgi hmi hcsd hhd hesd HCS hnpl hcl heN
      have hr1 := HS1.out.res.cell (k := 0) rfl
      have hz1 := HS1.out.res.frozen 0
      go_wp2_with fail
      refine HCut.out.mono ?_
      rintro e w2 ⟨vl, rfl, hsl, hb2⟩
      clear hr1 hz1 HCut
      obtain ⟨al, cl, rfl, hl1, hl2, hl3, hlc⟩ := hsl.open
      have HLC := hid (fun W (hW : Below w2.heap.size w2 W) j u (hu : ((cs.map fun (x : Nat) => (x : Int)).map iv)[j]? = some u) => (show ∃ b off, al = some ⟨b, off, none⟩ ∧ b < W.heap.size ∧ W.cell? ⟨b, off + j, none⟩ = some u from by
        obtain ⟨b, off, h1, h2, h3⟩ := hlc j u (by rw [List.map_map] at hu; exact hu)
        exact ⟨b, off, h1, Nat.lt_of_lt_of_le h2 hW.size, (hW.cell (p := ⟨b, off + j, none⟩) h2).trans h3⟩))
      have HB12 := hid hb2
      have HS2 := hid (HS1.out.low hb2)
      have HB := hid (Below.refl w2.heap.size w2)
      have HC1 := hid (HCo.out w2 hb2 al cs.length cl (cs.map fun (x : Nat) => (x : Int)) (by omega) (by simp) hl1 hl3 (HLC.out w2 (Below.refl _ _)))
      rw [HI.out.1, if_pos rfl, if_pos rfl, HI.out.2.2.2] at HC1
      clear hsl hlc hb2 HS1
      go_wp2_with fail
      refine HC1.out.mono ?_
      rintro e w3 ⟨rfl, hb3⟩
      have HB3 := hid hb3
      clear hb3 HC1 HB
      go_wp2_with fail
      refine (num_any _ _).mono ?_
      rintro e w' ⟨rfl, rfl⟩
      have HK1 := hid (HCh.out w3 al cs.length cl (cs.map fun (x : Nat) => (x : Int)) (by omega) (by simp) (HLC.out w3 HB3.out))
      rw [show max 0 (bs.length : Int) = (bs.length : Int) from by omega, if_pos ⟨HI.out.1, HI.out.2.1⟩] at HK1
      go_wp2_with fail
      refine HK1.out.mono ?_
      rintro e w4 ⟨rfl, hb4⟩
      have HB4 := hid (HB3.out.trans (hb4.mono HB3.out.size))
      clear hb4 HK1 HB3
      go_wp2_with fail
      refine (num_any _ _).mono ?_
      rintro e w' ⟨rfl, rfl⟩
      obtain ⟨M, F, C, ca, ch, hv⟩ := HBoth.out [] (by simp) (fun h1 h2 => HOpt.out [] h1 h2 (fun c hc => by simp at hc))
      have HCa := hid (ca w4 none 0 0 (HB12.out.trans (HB4.out.mono HB12.out.size)) rfl (Nat.le_refl _) (fun _ => rfl) (fun j u hu => by simp at hu))
      have HCh1 := hid (fun W => ch W none 0 0 rfl (fun j u hu => by simp at hu))
      have HV := hid hv
      clear ca ch hv
      go_wp2_with fail
      refine HCa.out.mono ?_
      rintro e w5 ⟨rfl, hb5⟩
      have HB5 := hid (HB4.out.trans (hb5.mono HB4.out.size))
      clear hb5 HCa HB4
      go_upto_region 9 with fail
      go_cut [84] from 69 to 84 (fun s wx => s = .bool false ∧ Below w2.heap.size w2 wx)
      case first =>
        rcases HV.out with ⟨rfl, rfl, hm⟩ | hc
        · go_wp2_with fail
          refine (HCh1.out w5).mono ?_
          rintro e w6 ⟨rfl, hb6⟩
          have HB6 := hid (HB5.out.trans (hb6.mono HB5.out.size))
          clear hb6
          go_wp2_with fail
          refine (num_any _ _).mono ?_
          rintro e w' ⟨rfl, rfl⟩
          go_wp2_with fail
          refine (num_any _ _).mono ?_
          rintro e w' ⟨rfl, rfl⟩
          go_wp2_with fail
          go_meet
          exact ⟨by rw [show decide (M < W0) = false from by simpa using hm], HB6.out⟩
        · go_wp2_with fail
          refine (HCh1.out w5).mono ?_
          rintro e w6 ⟨rfl, hb6⟩
          have HB6 := hid (HB5.out.trans (hb6.mono HB5.out.size))
          clear hb6
          go_wp2_with fail
          refine (num_any _ _).mono ?_
          rintro e w' ⟨rfl, rfl⟩
          go_wp2_with fail
          go_meet
          exact ⟨rfl, HB6.out⟩
      case rest =>
        obtain ⟨rfl, hbc⟩ := hcut
        have HB6 := hid hbc
        clear hbc HB5 HV HCh1
        go_upto_region 12 with fail
        clear hgr
        go_wp2_with fail
        refine (HEq.out _).mono ?_
        rintro e w7 ⟨ve, rfl, hse, hb7⟩
        obtain ⟨ae, ce, rfl, he1, _, he3, hec⟩ := hse.open
        have HB7 := hid (HB6.out.trans (hb7.mono HB6.out.size))
        have HC2 := hid (HCo.out w7 (HB12.out.trans (HB7.out.mono HB12.out.size)) ae es.length ce es HE0.out rfl he1 he3 hec)
        rw [HEF.out.1, if_pos rfl, if_pos rfl] at HC2
        have HWE := hid (fun hm => HOpt.out es HEF.out.1 HEF.out.2 (HMod.out hm))
        generalize worthGo bs 0 (es ++ [(bs.length : Int)]) = WE at *
        clear hse hec hb7
        go_wp2_with fail
        refine HC2.out.mono ?_
        rintro e w8 ⟨rfl, hb8⟩
        have HB8 := hid (HB7.out.trans (hb8.mono HB7.out.size))
        clear hb8 HC2 HB6 HB7
        have hmm2 := HMm.out
        go_upto_region 14 with fail
        go_cut [111] from 97 to 111 (fun s wx => s = .bool false ∧ Below w2.heap.size w2 wx)
        case first =>
          by_cases hmod : h % (g : Int) = 0
          · have hle := HWE.out hmod
            go_wp2_with fail
            refine (num_any _ _).mono ?_
            rintro e w' ⟨rfl, rfl⟩
            go_wp2_with fail
            go_meet
            exact ⟨by rw [show decide (WE < W0) = false from by simpa using hle], HB8.out⟩
          · go_wp2_with fail
            go_meet
            exact ⟨by simp, HB8.out⟩
        case rest =>
          obtain ⟨rfl, hbc⟩ := hcut
          have HB9 := hid hbc
          clear hbc HB8 hmm2
          go_upto_if 114 with fail
          go_cut [] from 20 to 192 (fun wx => Below w2.heap.size w2 wx)
          case first =>
            by_cases h0 : 0 < cs.length
            · obtain ⟨kk, hkq, hkl⟩ : ∃ kk : Nat, which % (cs.length : Int) = (kk : Int) ∧ kk < cs.length := ⟨(which % (cs.length : Int)).toNat, by
                  have := Int.emod_nonneg which (b := (cs.length : Int)) (by omega)
                  omega, by
                  have := Int.emod_nonneg which (b := (cs.length : Int)) (by omega)
                  have := Int.emod_lt_of_pos which (b := (cs.length : Int)) (by omega)
                  omega⟩
              obtain ⟨bl, ol, rfl, hq1, hq2⟩ := HLC.out w2 (Below.refl _ _) 0 (iv ((cs[0] : Nat) : Int)) (by rw [List.getElem?_map, List.getElem?_map, List.getElem?_eq_getElem h0]; rfl)
              clear hq1 hq2
              go_upto_region 18 with fail
              rw [hkq]
              clear hkq
              have hkl' : (kk : Int) < (cs.length : Int) := by omega
              have hk6 : kk ≤ 6001 := by omega
              obtain ⟨oX, hX⟩ : ∃ oX, (if cl = kk + 1 then ol else ol + (kk + 1)) = oX := ⟨_, rfl⟩
              refine wp_region_noPanic ?_
              refine wp_region_any (by kernel_rfl) ?_
              refine wpAny_take (i := 1) (v := .slice (some ⟨bl, ol, none⟩) cs.length cl) (by simp only [List.getElem?_toArray, List.getElem?_cons_zero, List.getElem?_cons_succ]; rfl) (by kernel_rfl) (by kernel_rfl) (by kernel_rfl) (fun _ _ _ h => h) (Or.inl ⟨by rfl, fun W => by go_simp⟩) ?_
              simp only [Act.put, List.setIfInBounds_toArray, List.set_cons_zero, List.set_cons_succ]
              refine wpAny_take (i := 2) (v := .int .i64 (kk : Int)) (by simp only [List.getElem?_toArray, List.getElem?_cons_zero, List.getElem?_cons_succ]; rfl) (by kernel_rfl) (by kernel_rfl) (by kernel_rfl) (fun _ _ _ h => h) (Or.inl ⟨by rfl, fun W => by go_simp⟩) ?_
              simp only [Act.put, List.setIfInBounds_toArray, List.set_cons_zero, List.set_cons_succ]
              refine wpAny_take (i := 3) (v := .slice (some ⟨bl, ol, none⟩) kk cl) (by simp only [List.getElem?_toArray, List.getElem?_cons_zero, List.getElem?_cons_succ]; rfl) (by kernel_rfl) (by kernel_rfl) (by kernel_rfl) (fun _ _ _ h => h) (Or.inl ⟨by rfl, fun W => by go_simp; (intro hh; exfalso; omega)⟩) ?_
              simp only [Act.put, List.setIfInBounds_toArray, List.set_cons_zero, List.set_cons_succ]
              refine wpAny_take (i := 5) (v := .slice (some ⟨bl, ol, none⟩) cs.length cl) (by simp only [List.getElem?_toArray, List.getElem?_cons_zero, List.getElem?_cons_succ]; rfl) (by kernel_rfl) (by kernel_rfl) (by kernel_rfl) (fun _ _ _ h => h) (Or.inl ⟨by rfl, fun W => by go_simp⟩) ?_
              simp only [Act.put, List.setIfInBounds_toArray, List.set_cons_zero, List.set_cons_succ]
              refine wpAny_take (i := 6) (v := .int .i64 (kk : Int)) (by simp only [List.getElem?_toArray, List.getElem?_cons_zero, List.getElem?_cons_succ]; rfl) (by kernel_rfl) (by kernel_rfl) (by kernel_rfl) (fun _ _ _ h => h) (Or.inl ⟨by rfl, fun W => by go_simp⟩) ?_
              simp only [Act.put, List.setIfInBounds_toArray, List.set_cons_zero, List.set_cons_succ]
              refine wpAny_take (i := 7) (v := .int .i64 ((kk : Int) + 1)) (by simp only [List.getElem?_toArray, List.getElem?_cons_zero, List.getElem?_cons_succ]; rfl) (by kernel_rfl) (by kernel_rfl) (by kernel_rfl) (fun _ _ _ h => h) (Or.inl ⟨by rfl, fun W => by go_simp; (rw [IntKind.wrap_i64]; omega)⟩) ?_
              simp only [Act.put, List.setIfInBounds_toArray, List.set_cons_zero, List.set_cons_succ]
              refine wpAny_take (i := 8) (v := .slice (some ⟨bl, oX, none⟩) (cs.length - (kk + 1)) (cl - (kk + 1))) (by simp only [List.getElem?_toArray, List.getElem?_cons_zero, List.getElem?_cons_succ]; rfl) (by kernel_rfl) (by kernel_rfl) (by kernel_rfl) (fun _ _ _ h => h) (Or.inl ⟨by rfl, fun W => by go_simp; (rw [if_pos ⟨by omega, by omega⟩, ← hX]; split <;> rfl)⟩) ?_
              simp only [Act.put, List.setIfInBounds_toArray, List.set_cons_zero, List.set_cons_succ]
              have HXo := hid hX
              clear hX
              have hbD : Below wc.heap.size wc (wc.drew.alloc (.cells #[] 3)) := ((Below.refl wc.heap.size wc).drew).alloc (Nat.le_refl _) _
              have HBE := hid (HB9.out.trans (hbD.mono HB9.out.size))
              have HOE := hid (show (wc.drew.alloc (.cells #[] 3)).ownsRow wc.heap.size 3 1 (.slice (some ⟨wc.heap.size, 0, none⟩) 0 0) 0 [] from own_empty (w := wc.drew) (Nat.le_refl _))
              have hszE : wc.heap.size ≤ (wc.drew.alloc (.cells #[] 3)).heap.size := hbD.size
              clear hbD
              refine wpAny_ready (rs := [0]) (by kernel_rfl) (by simp) ?_
              refine AllReady.cons (by simp only [List.getElem?_toArray, List.getElem?_cons_zero]; rfl) (fun K hK => ?_) AllReady.nil
              rw [if_pos (by rfl)]
              go_simp
              refine hK _ _ ?_
              clear hK K
              refine wpAny_ready (rs := [4]) (by kernel_rfl) (by simp) ?_
              refine AllReady.cons (by simp only [List.getElem?_toArray, List.getElem?_cons_zero, List.getElem?_cons_succ]; rfl) (fun K hK => ?_) AllReady.nil
              refine step_appends rfl _ _ 29 rfl 3 _ 8 Try.underlying29 Try.info_int rfl wc.heap.size (.slice (some ⟨wc.heap.size, 0, none⟩) 0 0) 0 kk cl ⟨bl, ol, none⟩ [] (((cs.take kk).map fun (x : Nat) => (x : Int)).map iv) (by simp; omega) ?hu1 rfl rfl ?hc1 (by exact HOE.out) (by unfold maxLen; omega) (by omega) (by exact hszE) ?hk1
              case hu1 =>
                intro u hu
                obtain ⟨x, _, rfl⟩ := List.mem_map.1 hu
                rfl
              case hc1 =>
                intro j u hu
                have hj : j < kk := by
                  have := (List.getElem?_eq_some_iff.1 hu).1
                  simp at this
                  omega
                obtain ⟨b', off', e1, _, e3⟩ := HLC.out _ HBE.out j u (by
                  rw [List.map_take, List.map_take, List.getElem?_take_of_lt hj] at hu
                  exact hu)
                simp only [Option.some.injEq, Addr.mk.injEq, and_true] at e1
                obtain ⟨rfl, rfl⟩ := e1
                rw [Addr.add_mid]
                exact e3
              case hk1 =>
                intro v1 w10 hown1 hg1
                refine hK _ _ ?_
                clear hK K
                have HBF := hid (show Below w2.heap.size w2 w10 from HBE.out.grown hg1 (Nat.le_trans HB9.out.size hszE) (fun q hq => Nat.le_trans HB9.out.size (HOE.out.lt q hq).1))
                have hszF : wc.heap.size ≤ w10.heap.size := Nat.le_trans hszE hg1.size
                have HO1 := hid hown1
                clear hg1 hown1 HOE HBE hszE
                refine wpAny_ready (rs := [9]) (by kernel_rfl) (by simp) ?_
                refine AllReady.cons (by simp only [List.getElem?_toArray, List.getElem?_cons_zero, List.getElem?_cons_succ]; rfl) (fun K hK => ?_) AllReady.nil
                refine step_appends rfl _ _ 29 rfl 3 _ 8 Try.underlying29 Try.info_int rfl wc.heap.size v1 (0 + kk) (cs.length - (kk + 1)) (cl - (kk + 1)) ⟨bl, oX, none⟩ _ (((cs.drop (kk + 1)).map fun (x : Nat) => (x : Int)).map iv) (by simp) ?hu2 rfl rfl ?hc2 (by exact HO1.out) (by unfold maxLen; omega) (by omega) (by exact hszF) ?hk2
                case hu2 =>
                  intro u hu
                  obtain ⟨x, _, rfl⟩ := List.mem_map.1 hu
                  rfl
                case hc2 =>
                  intro j u hu
                  have hj : j < cs.length - (kk + 1) := by
                    have := (List.getElem?_eq_some_iff.1 hu).1
                    simpa using this
                  have hoX := HXo.out
                  rw [if_neg (by omega)] at hoX
                  obtain ⟨b', off', e1, _, e3⟩ := HLC.out _ HBF.out (kk + 1 + j) u (by
                    rw [List.map_drop, List.map_drop, List.getElem?_drop] at hu
                    exact hu)
                  simp only [Option.some.injEq, Addr.mk.injEq, and_true] at e1
                  obtain ⟨rfl, rfl⟩ := e1
                  rw [Addr.add_mid, ← hoX, Nat.add_assoc]
                  exact e3
                case hk2 =>
                  intro v2 w11 hown2 hg2
                  refine hK _ _ ?_
                  clear hK K
                  have hBG : Below w2.heap.size w2 w11 := HBF.out.grown hg2 HBF.out.size (fun q hq => Nat.le_trans HB9.out.size (HO1.out.lt q hq).1)
                  have HBG := hid hBG
                  have hls : (cs.take kk ++ cs.drop (kk + 1)).length = 0 + kk + (cs.length - (kk + 1)) := by
                    rw [List.length_append, List.length_take, List.length_drop]
                    omega
                  rw [← hls, List.nil_append, ← List.map_append, ← List.map_append] at hown2
                  have hlm : ∀ d ∈ cs.take kk ++ cs.drop (kk + 1), d % g = 0 := fun d hd => by
                    rcases List.mem_append.1 hd with h | h
                    · exact HI.out.2.2.1 d (List.mem_of_mem_take h)
                    · exact HI.out.2.2.1 d (List.mem_of_mem_drop h)
                  have hll : (cs.take kk ++ cs.drop (kk + 1)).length ≤ 9000 := by omega
                  generalize cs.take kk ++ cs.drop (kk + 1) = less at *
                  obtain ⟨a3, c3, rfl, hn3, _, hz3, hc3⟩ := (Sl.of_owns hown2).open
                  obtain ⟨M3, F3, C3, ca3, ch3, hv3⟩ := HBoth.out (less.map fun (x : Nat) => (x : Int)) (by simpa using hll) (fun h1 h2 => HOpt.out _ h1 h2 (fun c hc => by
                    obtain ⟨d, hd, rfl⟩ := List.mem_map.1 hc
                    have := hlm d hd
                    omega))
                  have HCa3 := hid (ca3 w11 a3 less.length c3 (HB12.out.trans (hBG.mono HB12.out.size)) (by simp) hn3 hz3 hc3)
                  have HCh3 := hid (fun W (hW : Below w11.heap.size w11 W) => ch3 W a3 less.length c3 (by simp) (fun j u hu => by
                    obtain ⟨b, off, h1, h2, h3⟩ := hc3 j u hu
                    exact ⟨b, off, h1, Nat.lt_of_lt_of_le h2 hW.size, (hW.cell (p := ⟨b, off + j, none⟩) h2).trans h3⟩))
                  have HV3 := hid hv3
                  clear hg2 hown2 HO1 HBF hszF hls hlm hll hn3 hz3 hc3 ca3 ch3 hv3 hBG HXo
                  refine wpAny_ready (rs := [10]) (by kernel_rfl) (by simp) ?_
                  refine AllReady.cons (by simp only [List.getElem?_toArray, List.getElem?_cons_zero, List.getElem?_cons_succ]; rfl) (fun K hK => ?_) AllReady.nil
                  rw [if_pos (by rfl)]
                  go_simp
                  refine hK _ _ ?_
                  clear hK K
                  refine wpAny_done (by kernel_rfl) ?_ _
                  refine NoPanic.normal ?_
                  dsimp only [Exit.then]
                  go_wp2_with fail
                  refine HCa3.out.mono ?_
                  rintro e w12 ⟨rfl, hb12⟩
                  have HB11 := hid hb12
                  have HBG2 := hid (HBG.out.trans (hb12.mono HBG.out.size))
                  clear hb12 HCa3
                  go_upto_region 20 with fail
                  go_cut [152] from 136 to 152 (fun s wx => s = .bool false ∧ Below w2.heap.size w2 wx)
                  case first =>
                    rcases HV3.out with ⟨rfl, rfl, hm⟩ | hc
                    · go_wp2_with fail
                      refine (HCh3.out w12 HB11.out).mono ?_
                      rintro e w6 ⟨rfl, hb6⟩
                      have HB6 := hid (HBG2.out.trans (hb6.mono HBG2.out.size))
                      clear hb6
                      go_wp2_with fail
                      refine (num_any _ _).mono ?_
                      rintro e w' ⟨rfl, rfl⟩
                      go_wp2_with fail
                      refine (num_any _ _).mono ?_
                      rintro e w' ⟨rfl, rfl⟩
                      go_wp2_with fail
                      go_meet
                      exact ⟨by rw [show decide (M3 < W0) = false from by simpa using hm], HB6.out⟩
                    · go_wp2_with fail
                      refine (HCh3.out w12 HB11.out).mono ?_
                      rintro e w6 ⟨rfl, hb6⟩
                      have HB6 := hid (HBG2.out.trans (hb6.mono HBG2.out.size))
                      clear hb6
                      go_wp2_with fail
                      refine (num_any _ _).mono ?_
                      rintro e w' ⟨rfl, rfl⟩
                      go_wp2_with fail
                      go_meet
                      exact ⟨rfl, HB6.out⟩
                  case rest =>
                    obtain ⟨rfl, hbc⟩ := hcut
                    have HB13 := hid hbc
                    clear hbc HV3 HCh3 HB11 HBG2 HBG
                    go_wp2_with (at_builtin; refine Hid.out ?_)
                    refine hid ?_
                    refine wpList_appends rfl _ _ 29 rfl 3 _ 8 Try.underlying29 Try.info_int rfl (by decide) _ wc.heap.size _ 0 cs.length cl (some ⟨bl, ol, none⟩) [] ((cs.map fun (x : Nat) => (x : Int)).map iv) (by simp) ?hu rfl rfl hl1 (fun h => by cases h) (by exact HLC.out _ (HB13.out.trans ((below_new _ _).mono HB13.out.size))) (by exact own_empty (Nat.le_refl _)) ?hn ?hb ?hk
                    case hu =>
                      intro u hu
                      obtain ⟨x, _, rfl⟩ := List.mem_map.1 hu
                      rfl
                    case hn => omega
                    case hb => simp
                    case hk =>
                      intro v4 w14 hown4 hg4
                      rw [List.nil_append, Nat.zero_add] at hown4
                      have hB14 := HB13.out.trans (((below_new wc (.cells #[] 3)).grown hg4 (by simp) (fun k hk => ((own_empty (e := 3) (Nat.le_refl wc.heap.size)).lt k hk).1)).mono HB13.out.size)
                      obtain ⟨G, cap, gs, rfl, hGb, hcap, hcap2, hBG, hgs⟩ := own_blk hown4 h0
                      have hgl : cs.length ≤ gs.length := by
                        have := congrArg List.length hgs
                        simp at this
                        omega
                      have hcell : w14.cell? ⟨G, kk, none⟩ = some (.int .i64 ((cs[kk]'hkl : Nat) : Int)) := by
                        refine hBG.cell ?_
                        have h1 : (gs.take (cs.length * 1))[kk]? = some (iv ((cs[kk]'hkl : Nat) : Int)) := by
                          rw [hgs, List.getElem?_map, List.getElem?_map, List.getElem?_eq_getElem hkl]
                          rfl
                        rw [List.getElem?_take_of_lt (by omega)] at h1
                        exact h1
                      have hfz := hBG.frozen kk
                      have hgp : (1 : Int) ≤ (g : Int) := by omega
                      have hz1 : -4 ≤ by_ % 9 - 4 ∧ by_ % 9 - 4 ≤ 4 := by omega
                      have hmb := mul_le_of (a := (g : Int)) (b := by_ % 9 - 4) (A := 1024) (B := 4) (by omega) hgd hz1.1 hz1.2 (by omega)
                      have hcv : ((cs[kk]'hkl : Nat) : Int) ≤ 6000 := by
                        obtain ⟨ds, e1, e2⟩ := rise_nat bs.length _ 0 HI.out.1
                        have hds : ds = cs := by
                          have hh := congrArg (List.map Int.toNat) e1
                          rw [List.map_map, List.map_map, show (Int.toNat ∘ fun (x : Nat) => (x : Int)) = id from by funext x; simp, List.map_id, List.map_id] at hh
                          exact hh.symm
                        subst hds
                        have := (e2 kk _ (List.getElem?_eq_getElem hkl)).2
                        omega
                      have hX0 : 0 ≤ ((cs[kk]'hkl : Nat) : Int) := by omega
                      obtain ⟨Y, hY⟩ : ∃ Y : Int, Y = ((cs[kk]'hkl : Nat) : Int) + (g : Int) * (by_ % 9 - 4) := ⟨_, rfl⟩
                      have hother : ∀ c ∈ (cs.map fun (x : Nat) => (x : Int)).set kk Y, c % (g : Int) = 0 := fun c hc => by
                        rcases List.mem_or_eq_of_mem_set hc with h | h
                        · obtain ⟨d, hd, rfl⟩ := List.mem_map.1 h
                          have := HI.out.2.2.1 d hd
                          omega
                        · subst h
                          have := HI.out.2.2.1 _ (List.getElem_mem hkl)
                          rw [hY, Int.add_mul_emod_self_left]
                          omega
                      have HBS := hid (hBG.set kk (.int .i64 Y))
                      have hset : (gs.set kk (.int .i64 Y)).take (cs.length * 1) = ((cs.map fun (x : Nat) => (x : Int)).set kk Y).map iv := by
                        rw [List.map_set, ← hgs, List.take_set]
                        rfl
                      have HSet := hid hset
                      have HOth := hid hother
                      have HB14 := hid (hB14.setCell (p := ⟨G, kk, none⟩) (Nat.le_trans HB13.out.size hGb) (.int .i64 Y))
                      have HY := hid hY
                      have HCV := hid hcell
                      have HGl := hid hgl
                      generalize hcx : ((cs[kk]'hkl : Nat) : Int) = X at *
                      clear hown4 hg4 hgs hBG hset hother hB14 hY hcx hgl
                      have hYw : X + (g : Int) * (by_ % 9 - 4) = Y := HY.out.symm
                      go_upto_region 24 with fail
                      clear hYw hcell hfz
                      have hollen : ((cs.map fun (x : Nat) => (x : Int)).set kk Y).length = cs.length := by simp
                      have hocell : ∀ j u, (((cs.map fun (x : Nat) => (x : Int)).set kk Y).map iv)[j]? = some u → ∃ b off, (some ⟨G, 0, none⟩ : Option Addr) = some ⟨b, off, none⟩ ∧ b < (w14.setCell ⟨G, kk, none⟩ (.int .i64 Y)).heap.size ∧ (w14.setCell ⟨G, kk, none⟩ (.int .i64 Y)).cell? ⟨b, off + j, none⟩ = some u := fun j u hu => by
                        refine ⟨G, 0, rfl, HBS.out.lt, ?_⟩
                        rw [Nat.zero_add]
                        refine HBS.out.cell ?_
                        have hj : j < cs.length := by
                          have := (List.getElem?_eq_some_iff.1 hu).1
                          simpa using this
                        rw [← HSet.out, List.getElem?_take_of_lt (by omega)] at hu
                        exact hu
                      have hob := HB14.out
                      have HOt := hid (HOth.out)
                      obtain ⟨OL, hOL⟩ : ∃ OL, OL = (cs.map fun (x : Nat) => (x : Int)).set kk Y := ⟨_, rfl⟩
                      rw [← hOL] at hollen hocell
                      obtain ⟨M4, F4, C4, ca4, ch4, hv4⟩ := HBoth.out OL (by omega) (fun h1 h2 => HOpt.out _ h1 h2 (fun c hc => HOt.out c (by rw [← hOL]; exact hc)))
                      clear hOL HSet HOth HOt HBS HY HCV HGl
                      generalize w14.setCell ⟨G, kk, none⟩ (.int .i64 Y) = w15 at *
                      have HCa4 := hid (ca4 w15 (some ⟨G, 0, none⟩) cs.length cap (HB12.out.trans (hob.mono HB12.out.size)) hollen hcap (fun h => by cases h) hocell)
                      have HCh4 := hid (fun W (hW : Below w15.heap.size w15 W) => ch4 W (some ⟨G, 0, none⟩) cs.length cap hollen (fun j u hu => by
                        obtain ⟨b, off, h1, h2, h3⟩ := hocell j u hu
                        exact ⟨b, off, h1, Nat.lt_of_lt_of_le h2 hW.size, (hW.cell (p := ⟨b, off + j, none⟩) h2).trans h3⟩))
                      have HV4 := hid hv4
                      have HOB := hid hob
                      clear ca4 ch4 hv4 hob hocell hollen HB14
                      go_wp2_with fail
                      refine HCa4.out.mono ?_
                      rintro e w16 ⟨rfl, hb16⟩
                      have HB15 := hid hb16
                      have HBG3 := hid (HOB.out.trans (hb16.mono HOB.out.size))
                      clear hb16 HCa4
                      go_upto_region 25 with fail
                      go_cut [192] from 176 to 192 (fun s wx => s = .bool false ∧ Below w2.heap.size w2 wx)
                      case first =>
                        rcases HV4.out with ⟨rfl, rfl, hm⟩ | hc
                        · go_wp2_with fail
                          refine (HCh4.out w16 HB15.out).mono ?_
                          rintro e w6 ⟨rfl, hb6⟩
                          have HB6 := hid (HBG3.out.trans (hb6.mono HBG3.out.size))
                          clear hb6
                          go_wp2_with fail
                          refine (num_any _ _).mono ?_
                          rintro e w' ⟨rfl, rfl⟩
                          go_wp2_with fail
                          refine (num_any _ _).mono ?_
                          rintro e w' ⟨rfl, rfl⟩
                          go_wp2_with fail
                          go_meet
                          exact ⟨by rw [show decide (M4 < W0) = false from by simpa using hm], HB6.out⟩
                        · go_wp2_with fail
                          refine (HCh4.out w16 HB15.out).mono ?_
                          rintro e w6 ⟨rfl, hb6⟩
                          have HB6 := hid (HBG3.out.trans (hb6.mono HBG3.out.size))
                          clear hb6
                          go_wp2_with fail
                          refine (num_any _ _).mono ?_
                          rintro e w' ⟨rfl, rfl⟩
                          go_wp2_with fail
                          go_meet
                          exact ⟨rfl, HB6.out⟩
                      case rest =>
                        obtain ⟨rfl, hbc⟩ := hcut
                        have HB17 := hid hbc
                        clear hbc
                        go_wp2
                        go_meet
                        exact HB17.out
            · go_wp2
              go_meet
              exact HB9.out
          case rest =>
            have HB10 := hid hcut
            clear hcut HB9
            have HPa := hid (HParts.out wc (HB12.out.trans (HB10.out.mono HB12.out.size)) al cs.length cl (cs.map fun (x : Nat) => (x : Int)) (by omega) (by simp) hl1 hl3 (HLC.out wc HB10.out))
            go_wp2_with fail
            refine HPa.out.mono ?_
            rintro e w20 ⟨p5, p6, rfl, hP, hb20⟩
            have hfn := fun W => fn_nil 43 #[.pointer (some ⟨p5, 0, none⟩), .pointer (some ⟨p6, 0, none⟩)] W
            have HB20 := hid (HB10.out.trans (hb20.mono HB10.out.size))
            have HPA := hid hP
            have HSZ := hid hb20.size
            clear hP hb20 HPa HB10
            go_wp2_with fail
            have HS20 := hid (HS2.out.low HB20.out)
            have hmx : Try.prog.follows .mixedOrders = true := by kernel_rfl
            refine (wpIn_wide (n := 1)).1 ?_
            have hsz1 : (w20.alloc (.cells #[.slice none 0 0] 25)).heap.size = w20.heap.size + 1 := by simp
            have hI0 : IH w20 25 5 [] (w20.alloc (.cells #[.slice none 0 0] 25)) := ⟨.slice none 0 0, Blk.new w20 [.slice none 0 0] 25, World.ownsRow_nil _ _ _ _, below_new _ _⟩
            clear hfn
            apply wpIn_rangeAd (gf := 43) (lb := #[.pointer (some ⟨p5, 0, none⟩), .pointer (some ⟨p6, 0, none⟩)]) rfl (enters_of Try.func43 (by kernel_rfl) rfl) (encs := encsP) (Ad := AdP) (Kp := KeepsBut (fun k => w20.heap.size ≤ k)) KeepsBut.trans (fun A o o' h ho => KeepsBut.put A _ o o' h ho)
              (parts_seq (fun k => w20.heap.size ≤ k) wc.heap.size p5 p6 cs.length bs (cs.map fun (x : Nat) => (x : Int)) w20 (w20.alloc (.cells #[.slice none 0 0] 25)) (by omega) (by simp) (by omega) HPA.out (Tr.of_below (below_new _ _)) (fun k _ h2 h3 => absurd h2 (Nat.not_lt.2 h3))) (fun _ => rfl)
              (IH w20 25 5) (fun _ _ _ => False) (IH_stays w20 _ _ (by rw [hsz1]; exact Nat.le_refl _)) (fun _ _ _ _ _ h _ _ => h) (AdP_stays _) hI0
            case hassign =>
              intro l x W K hK
              unfold encsP
              gi_wp2
              exact hK
            case hbody =>
              rintro l pre ⟨T, v, b⟩ W ⟨va, h1, h2, h3⟩ hAd hSp
              have hAd' : Sl W 1 v b.length (b.map bv) := hAd
              obtain ⟨hT, hne, hlen⟩ := prefix_fine hSp
              clear hAd hSp
              obtain ⟨a', c', rfl, hlc, hcm2, hac2, hcells⟩ := Sl.open hAd'
              obtain ⟨av, cv, rfl⟩ := own_slice h2
              have hT' : T = (((allP pre).length : Nat) : Int) := hT
              have hlen' : (allP pre ++ b).length ≤ bs.length := hlen
              rw [List.length_append] at hlen'
              have hne' : b ≠ [] := hne
              have hb0 : 0 < b.length := List.length_pos_iff.2 hne'
              subst hT'
              obtain ⟨b', off', rfl, _, _⟩ := hcells 0 (bv (b[0]'hb0)) (by rw [List.getElem?_map, List.getElem?_eq_getElem hb0]; rfl)
              have t0 : (((b.length : Nat) : Int) == 0) = false := by simpa using hne'
              have hca := h1.cell (k := 0) rfl
              have hza := h1.frozen 0
              have HC5 := hid hcells
              have H1 := hid h1
              have H2 := hid h2
              have H3 := hid h3
              clear hT hne hlen hne' hAd' hcells h1 h2 h3
              dsimp only
              obtain ⟨i0, hi, hz0, hz1, hz2⟩ := info_parts Try.info_byte
              gi_wp2_with (gi_at_builtin; refine Hid.out ?_)
              refine hid ?_
              refine wpListIn_append_own _ rfl _ _ 25 rfl (w20.heap.size + 1) 5 i0 (.int .u8 0) 1 1 Try.underlying25 hi hz0 hz1 hz2 rfl (by decide) (.slice av (allP pre).length cv) (allP pre).length ((allP pre).map bv) rfl (by exact H2.out) ⟨b', off', none⟩ b.length c' (b.map bv) rfl (by simp) ?hc ?hu (by unfold maxLen; omega) (by omega) (by have := H1.out.lt; omega) ?hk
              case hc =>
                intro j u hu
                obtain ⟨b2, off2, e1, _, e3⟩ := HC5.out j u hu
                simp only [Option.some.injEq, Addr.mk.injEq, and_true] at e1
                obtain ⟨rfl, rfl⟩ := e1
                rw [Addr.add_mid]
                exact e3
              case hu =>
                intro u hu
                obtain ⟨x, _, rfl⟩ := List.mem_map.1 hu
                rfl
              case hk =>
                intro v' w31 hown' hg' _
                have hba := H1.out.grown hg' (H1.out.not_row H2.out (by decide))
                obtain ⟨av', cv', rfl⟩ := own_slice hown'
                have hca2 := hba.cell (k := 0) rfl
                have hza2 := hba.frozen 0
                have hki : ∀ (j : Nat) (o : Obj), (Value.slice av (allP pre).length cv).ownBlock = some j → W.heap[j]? = some o → o.isCells = true := fun j o e ho => by
                  obtain ⟨c0, fz, e2⟩ := own_kind H2.out j e
                  rw [e2] at ho
                  cases ho
                  rfl
                have hko := KeepsOthers.of_grownBy hg' hki
                have hkb : KeepsBut (fun k => w20.heap.size ≤ k) W w31 := KeepsBut.grown hg' (fun r e => by have := (H2.out.lt r e).1; omega)
                have hbl : Below w20.heap.size w20 w31 := H3.out.grown hg' H3.out.size (fun r e => by have := (H2.out.lt r e).1; omega)
                have hown2 := own_apart hown' hba (by decide) 0 (.slice av' ((allP pre).length + b.length) cv')
                have hba2 := hba.set 0 (.slice av' ((allP pre).length + b.length) cv')
                have HF := hid (And.intro (hko.trans (KeepsOthers.setCell w31 ⟨w20.heap.size, 0, none⟩ (.slice av' ((allP pre).length + b.length) cv'))) (And.intro (hkb.trans (KeepsBut.set w31 ⟨w20.heap.size, 0, none⟩ (.slice av' ((allP pre).length + b.length) cv') (Nat.le_refl _))) (And.intro hba2 (And.intro hown2 (hbl.setCell (p := ⟨w20.heap.size, 0, none⟩) (Nat.le_refl _) (.slice av' ((allP pre).length + b.length) cv'))))))
                clear hown' hg' hba hki hko hkb hbl hown2 hba2
                gi_wp2
                refine ⟨HF.out.1, HF.out.2.1, .slice av' ((allP pre).length + b.length) cv', HF.out.2.2.1, ?_, HF.out.2.2.2.2⟩
                have h5 : (w31.setCell ⟨w20.heap.size, 0, none⟩ (.slice av' ((allP pre).length + b.length) cv')).ownsRow (w20.heap.size + 1) 5 1 (.slice av' ((allP pre).length + b.length) cv') (allP pre ++ b).length ((allP pre ++ b).map bv) := by
                  rw [List.length_append, List.map_append]
                  exact HF.out.2.2.2.1
                rw [← show allP (pre ++ [mkP (((allP pre).length : Nat) : Int) (.slice (some ⟨b', off', none⟩) b.length c') b]) = allP pre ++ b from allP_snoc _ _] at h5
                exact h5
            case hdone =>
              rintro D xs W hD hS ⟨va, h1, h2, h3⟩ hK
              have hall : allP xs = bs := allP_full hS HI.out.1
              rw [hall] at h2
              clear hall
              rw [hsz1] at hD
              obtain ⟨av, cv, hva, _, _, _, hvc⟩ := (Sl.of_owns h2).open
              have hb2 : Below w2.heap.size w2 W := HB20.out.trans (h3.mono HB20.out.size)
              have hstr1 := run_str (P := Try.prog) W 25 9 5 Try.underlying25 Try.underlying5 Try.underlying9 av bs.length cv bs rfl hvc
              have hstr2 := run_str (P := Try.prog) W 25 9 5 Try.underlying25 Try.underlying5 Try.underlying9 ab bs.length cb bs rfl (HCSh.out W (HB12.out.trans (hb2.mono HB12.out.size)))
              have hca := h1.cell (k := 0) rfl
              rw [hva] at hca
              have HSW := hid (HS2.out.low hb2)
              have HK := hid hK
              have HD := hid hD
              clear h1 h2 h3 hvc hva hb2 hK hD
              go_wp2_with fail
              refine (HW.out _).mono ?_
              rintro e w40 ⟨rfl, hb40⟩
              have HS40 := hid (HSW.out.low hb40)
              have hr40 := HS40.out.res.cell (k := 0) rfl
              have hz40 := HS40.out.res.frozen 0
              have HKf := hid (at_low hb40 HK.out)
              clear hstr1 hstr2 hca hb40
              go_wp2
              have hlt := HSW.out.below.size
              have hd := HD.out
              have h20 := HS20.out.res.lt
              have hKf : (w40.setCell ⟨w.heap.size + 1, 0, none⟩ (.bool true)).heap[D]? = some (.deferred (some [])) := (Below.heap_setCell _ _ _ _ (by dsimp only; omega)).trans HKf.out
              have hrs := HS40.out.res.set 0 (.bool true)
              have hbs := HS40.out.below.setCell (p := ⟨w.heap.size + 1, 0, none⟩) (Nat.le_succ _) (.bool true)
              generalize w40.setCell ⟨w.heap.size + 1, 0, none⟩ (.bool true) = W9 at *
              refine ⟨by simp, .inl ⟨_, _, rfl, run_takeDeferred hKf, ?_⟩⟩
              have k1 : ∀ o, Blk (W9.putObj D o) (w.heap.size + 1) [.bool true] 4 := fun o => (World.putObj_heap_other (by omega)).trans hrs
              have q1 := fun o => (k1 o).cell (k := 0) rfl
              have hsz9 := hbs.size
              refine ⟨.bool true, by simp [results, Try.results10, go_sem, q1], rfl, hbs.grown (grownBy_putObj' _ _ _) hsz9 (fun k hk => by cases hk; omega)⟩
            case hstop =>
              rintro D c xs W _ _ h _
              exact h.elim
end Go.Proofs.Ytadnhjloeaddnaa
namespace Go.Proofs.Ytadnhjloeaddnaa.LSplitHolds
open Go.ChangeShapes Go.WideShapes Go.ChangeAt Go.RowKit Go.Port

set_option maxRecDepth 100000 in
theorem lifted (os : Os) (started : os.Started) (H : Type) (enc : TypeId × Value → H) :
    ReturnsInHanded {} Try.checked os 10 .any (Rows.splitHoldsSpec.pre6 enc Try.prog Try.f10 Rows.splitHoldsRow.domain false) (Rows.splitHoldsSpec.post enc Try.prog Try.f10 false true false false) := by
  refine returnsInHanded_of_change (C := Try.checked) Try.own started (by kernel_rfl) Try.func10
    (ChangeSpec.witness6 (enc := enc) (C := Try.checked) false ⟨#[], #[.agg #[.slice none 0 0], .int .i64 0, .int .u8 0, .int .u8 0], []⟩ 8 (by kernel_rfl) (by kernel_rfl) (by kernel_rfl) (by kernel_rfl)) ?_
  intro W base args ds gs before hval0 hW hcnd _
  have hval : ∀ (j : Nat) t v, Try.f10.params[j]? = some t → args[j]? = some v → Value.okWide Try.prog W .any base t v := hval0
  have hW' := hW
  obtain ⟨p, q, hA0, hV, rfl, hfz, hnd⟩ := hW
  have hA : DataW.TrodAll enc Try.prog W 0 (fun _ => true) true Try.f10.params.toList args.toList ds p := hA0
  rw [Try.params10] at hA hval
  obtain ⟨v0, vs0, d0, ds0, p0, q0, hargs, rfl, rfl, h0, r0⟩ := trodAll_cons hA
  obtain ⟨v1, vs1, d1, ds1, p1, q1, rfl, rfl, rfl, h1, r1⟩ := trodAll_cons r0
  obtain ⟨v2, vs2, d2, ds2, p2, q2, rfl, rfl, rfl, h2, r2⟩ := trodAll_cons r1
  obtain ⟨v3, vs3, d3, ds3, p3, q3, rfl, rfl, rfl, h3, r3⟩ := trodAll_cons r2
  obtain ⟨rfl, rfl, rfl⟩ := trodAll_nil r3
  obtain rfl : args = #[v0, v1, v2, v3] := by cases args; simp_all
  obtain ⟨rfl, rfl⟩ := trodVars_none hV
  have hl0 := open_text (hval 0 24 v0 rfl rfl) h0
  obtain ⟨a1, rfl, rfl, rfl, w1⟩ := open_int Try.underlying3 (hval 1 3 v1 rfl rfl) h1
  obtain ⟨a2, rfl, rfl, rfl, w2⟩ := open_int Try.underlying5 (hval 2 5 v2 rfl rfl) h2
  obtain ⟨a3, rfl, rfl, rfl, w3⟩ := open_int Try.underlying5 (hval 3 5 v3 rfl rfl) h3
  clear hA0 hval0
  simp only [List.append_nil] at hW'
  refine (SplitHolds_walk W v0 hl0 a1 (bounds_i64 w1) a2 (bounds_u8 w2) a3 (bounds_u8 w3)).mono fun e W' ⟨he, hb⟩ => ?_
  subst he
  exact ⟨_, rfl, law_post Try.kids Try.full Try.underlying4 rfl rfl hW' (by rw [Try.params10]; decide) rfl rfl rfl hb⟩

theorem over : Rows.splitHoldsRow.holds Try.pinned (OpenSpec.ofChange Rows.splitHoldsSpec) :=
  OpenClaim.holds_of_wide 10 Try.f10 rfl rfl rfl rfl rfl rfl rfl ⟨rfl, rfl, rfl, rfl, rfl⟩ rfl rfl rfl rfl rfl (by kernel_rfl) Try.func10 (by kernel_rfl)
    (of_decide_eq_true (by kernel_rfl)) (by unfold Func.isWrapper; first | (rw [if_pos (by decide +kernel)]; kernel_rfl) | (rw [if_neg (by decide +kernel)]; exact ⟨rfl, rfl⟩))
    (fun os started H enc _ => lifted os started H enc)

/-- The statement. -/
theorem proved : Rows.SplitHoldsSaid :=
  over
end Go.Proofs.Ytadnhjloeaddnaa.LSplitHolds
