/-
  The walks of layer 30: the next step of a greedy walk.
-/
import Derived.Test.YtngphgdoolcpcaaPlanFrom
import Derived.Test.YtngphgdoolcpcaaChF
namespace Go.Proofs.Ytngphgdoolcpcaa
open Go.RowKit Go.Port

set_option maxRecDepth 100000 in
set_option maxHeartbeats 8000000 in
theorem gnext_any (bs : List UInt8) (A : Nat) (W D : Int) (F Wk : Nat) (p frm least : Int) (w0 w : World) (h : FdAt 57 119 bs A W D F w0) (hb0 : Below w0.heap.size w0 w) (hWk : w0.heap.size ≤ Wk)
    (hk : Blk w Wk [.pointer (some ⟨F, 0, none⟩), .int .i64 p, .int .i64 frm, .int .i64 least] 94) (hf : 0 ≤ frm) (hfp : frm ≤ p) :
    Calls Try.prog 51 #[.pointer (some ⟨Wk, 0, none⟩)] w fun e w' => (match scanS (greedyA (findS bs A W D) least) ((bs.length : Int) - A) p with
      | none => e = .returned (.tuple #[stv (0, Sq.zero), .bool false]) ∧ ∃ q, Blk w' Wk [.pointer (some ⟨F, 0, none⟩), .int .i64 q, .int .i64 frm, .int .i64 least] 94
      | some (q, s) => e = .returned (.tuple #[stv (q, ⟨q - frm, s.len, s.off⟩), .bool true]) ∧ Blk w' Wk [.pointer (some ⟨F, 0, none⟩), .int .i64 (q + s.len), .int .i64 (q + s.len), .int .i64 least] 94) ∧ w.grownBy w' (some Wk) := by
  have HFi := hid (fun W' (hW' : Below w0.heap.size w0 W') (q : Int) => cfind_any bs A W D F q W' (h.low hW'))
  have HLe := hid (fun W' (hW' : Below w0.heap.size w0 W') => clen_any bs A W D F W' (h.low hW'))
  have HFm := hid (fun q s => @findS_form bs A W D q s)
  have HOk := hid (findS_ok (B := bs) (A := A) (W := W) (D := D) (least := least))
  have hbn := h.hn
  have hszI : (bs.length : Int) - (A : Int) ≤ 1000000 := by omega
  have HSz := hid hszI
  have hklt := hk.lt
  have HK := hid (hk.alloc (.cells #[.int .i64 0, .int .i64 0, .int .i64 0, .int .i64 0] 72))
  have HR := hid (Blk.new w [.int .i64 0, .int .i64 0, .int .i64 0, .int .i64 0] 72)
  have HG := hid (World.grownBy_alloc w (.cells #[.int .i64 0, .int .i64 0, .int .i64 0, .int .i64 0] 72) (some Wk))
  have HB := hid (hb0.alloc hb0.size (.cells #[.int .i64 0, .int .i64 0, .int .i64 0, .int .i64 0] 72))
  have HFP := hid (And.intro hf hfp)
  unfold stv
  unfold sqv at HFi
  clear h hb0 hk hbn hszI hf hfp
  generalize (bs.length : Int) - (A : Int) = size at *
  generalize findS bs A W D = find at *
  obtain ⟨S0, hS0⟩ : ∃ S0, scanS (greedyA find least) size p = S0 := ⟨_, rfl⟩
  rw [hS0]
  have HS0 := hid hS0
  clear hS0
  go_enter Try.func51, Try.ntmps51
  go_wp2
  generalize w.alloc (.cells #[.int .i64 0, .int .i64 0, .int .i64 0, .int .i64 0] 72) = w1 at *
  go_loopg [] (size - p).toNat (fun g wr => ∃ q, Hid (scanS (greedyA find least) size q = S0 ∧ p ≤ q) ∧ (size - q).toNat = g ∧ Blk wr Wk [.pointer (some ⟨F, 0, none⟩), .int .i64 q, .int .i64 frm, .int .i64 least] 94 ∧ Blk wr w.heap.size [.int .i64 0, .int .i64 0, .int .i64 0, .int .i64 0] 72 ∧ w.grownBy wr (some Wk) ∧ Below w0.heap.size w0 wr)
  case atStart => exact ⟨p, hid ⟨HS0.out, Int.le_refl _⟩, rfl, HK.out, HR.out, HG.out, HB.out⟩
  case round =>
    obtain ⟨q, HI, hgq, hkr, hrr, hgr, hbr⟩ := hrel
    have k0 := hkr.cell (k := 0) rfl
    have k1 := hkr.cell (k := 1) rfl
    have HKr := hid hkr
    have HRr := hid hrr
    have HGr := hid hgr
    have HBr := hid hbr
    clear hkr hrr hgr hbr
    by_cases hq : q < size
    · go_wp2_with fail
      go_quiet ((go_at_call 29; first | exact quiet_left3 (HLe.out _ (below_drewN HBr.out _)) | exact quiet_left0 (HLe.out _ (below_drewN HBr.out _))))
      have hKq : Blk (wr.drewN nq) Wk [.pointer (some ⟨F, 0, none⟩), .int .i64 q, .int .i64 frm, .int .i64 least] 94 := HKr.out
      have hRq : Blk (wr.drewN nq) w.heap.size [.int .i64 0, .int .i64 0, .int .i64 0, .int .i64 0] 72 := HRr.out
      have hGq := grown_below HGr.out (below_drewN (Below.refl wr.heap.size wr) nq)
      have hBq := below_drewN HBr.out nq
      generalize wr.drewN nq = W0 at *
      have HKq := hid hKq
      have HRq := hid hRq
      have HGq := hid hGq
      have HBq := hid hBq
      have HFq := hid (fun W' (hW : Below W0.heap.size W0 W') => HFi.out W' (HBq.out.trans (hW.mono HBq.out.size)) q)
      clear hKq hRq hGq hBq HKr HRr HGr HBr k0 k1
      obtain ⟨o, ho⟩ : ∃ o, find q = o := ⟨_, rfl⟩
      rw [ho] at HFq
      have HO := hid ho
      clear ho
      go_upto_region 3 with fail
      go_cut [4, 5] (fun t4 t5 wx => ∃ B, t4 = .pointer (some ⟨B, 0, none⟩) ∧ t5 = .bool o.isSome ∧ W0.heap.size ≤ B ∧ Blk wx B (sqc (o.getD Sq.zero)) 45 ∧ Below W0.heap.size W0 wx)
      case first =>
        have hB0 : Below W0.heap.size W0 W0.drew := (Below.refl _ _).drew
        refine wp_region_noPanic ?_
        refine wp_region_held_drew (S := fun W => Below W0.heap.size W0 W) (by kernel_rfl) hB0 (fun hHeld => ?_)
        generalize W0.drew = W1 at *
        refine wpAnyH_take (i := 0) (v := .pointer (some ⟨Wk, 0, none⟩)) (by simp only [List.getElem?_toArray, List.getElem?_cons_zero]; rfl) (by kernel_rfl) (by kernel_rfl) (by kernel_rfl) (fun _ _ _ h => h) (Or.inl ⟨by rfl, fun W hSw => ?_⟩) (by assumption) ?_
        · clear hSw
          go_simp
        simp only [Act.put, List.setIfInBounds_toArray, List.set_cons_zero, List.set_cons_succ]
        refine wpAnyH_take (i := 1) (v := .pointer (some ⟨Wk, 0, none⟩)) (by simp only [List.getElem?_toArray, List.getElem?_cons_zero, List.getElem?_cons_succ]; rfl) (by kernel_rfl) (by kernel_rfl) (by kernel_rfl) (fun _ _ _ h => h) (Or.inl ⟨by rfl, fun W hSw => ?_⟩) (by assumption) ?_
        · clear hSw
          go_simp
        simp only [Act.put, List.setIfInBounds_toArray, List.set_cons_zero, List.set_cons_succ]
        refine wpAnyH_take (i := 2) (v := .pointer (some ⟨Wk, 0, none⟩)) (by simp only [List.getElem?_toArray, List.getElem?_cons_zero, List.getElem?_cons_succ]; rfl) (by kernel_rfl) (by kernel_rfl) (by kernel_rfl) (fun _ _ _ h => h) (Or.inl ⟨by rfl, fun W hSw => ?_⟩) (by assumption) ?_
        · clear hSw
          go_simp
        simp only [Act.put, List.setIfInBounds_toArray, List.set_cons_zero, List.set_cons_succ]
        refine wpAnyH_take (i := 3) (v := .pointer (some ⟨F, 0, none⟩)) (by simp only [List.getElem?_toArray, List.getElem?_cons_zero, List.getElem?_cons_succ]; rfl) (by kernel_rfl) (by kernel_rfl) (by kernel_rfl) (fun _ _ _ h => h) (Or.inl ⟨by rfl, fun W hSw => ?_⟩) (by assumption) ?_
        · have hcw := (hSw.cell (p := ⟨Wk, 0, none⟩) HKq.out.lt).trans (HKq.out.cell (k := 0) rfl)
          go_simp
        simp only [Act.put, List.setIfInBounds_toArray, List.set_cons_zero, List.set_cons_succ]
        refine wpAnyH_take (i := 4) (v := .pointer (some ⟨Wk, 0, none⟩)) (by simp only [List.getElem?_toArray, List.getElem?_cons_zero, List.getElem?_cons_succ]; rfl) (by kernel_rfl) (by kernel_rfl) (by kernel_rfl) (fun _ _ _ h => h) (Or.inl ⟨by rfl, fun W hSw => ?_⟩) (by assumption) ?_
        · clear hSw
          go_simp
        simp only [Act.put, List.setIfInBounds_toArray, List.set_cons_zero, List.set_cons_succ]
        refine wpAnyH_take (i := 5) (v := .pointer (some ⟨Wk, 0, none⟩)) (by simp only [List.getElem?_toArray, List.getElem?_cons_zero, List.getElem?_cons_succ]; rfl) (by kernel_rfl) (by kernel_rfl) (by kernel_rfl) (fun _ _ _ h => h) (Or.inl ⟨by rfl, fun W hSw => ?_⟩) (by assumption) ?_
        · clear hSw
          go_simp
        simp only [Act.put, List.setIfInBounds_toArray, List.set_cons_zero, List.set_cons_succ]
        refine wpAnyH_take (i := 6) (v := .pointer (some ⟨Wk, 1, none⟩)) (by simp only [List.getElem?_toArray, List.getElem?_cons_zero, List.getElem?_cons_succ]; rfl) (by kernel_rfl) (by kernel_rfl) (by kernel_rfl) (fun _ _ _ h => h) (Or.inl ⟨by rfl, fun W hSw => ?_⟩) (by assumption) ?_
        · clear hSw
          go_simp
        simp only [Act.put, List.setIfInBounds_toArray, List.set_cons_zero, List.set_cons_succ]
        refine wpAnyH_take (i := 7) (v := .int .i64 q) (by simp only [List.getElem?_toArray, List.getElem?_cons_zero, List.getElem?_cons_succ]; rfl) (by kernel_rfl) (by kernel_rfl) (by kernel_rfl) (fun _ _ _ h => h) (Or.inl ⟨by rfl, fun W hSw => ?_⟩) (by assumption) ?_
        · have hcw := (hSw.cell (p := ⟨Wk, 1, none⟩) HKq.out.lt).trans (HKq.out.cell (k := 1) rfl)
          go_simp
        simp only [Act.put, List.setIfInBounds_toArray, List.set_cons_zero, List.set_cons_succ]
        refine wpAnyH_ready (rs := [8, 12]) (by kernel_rfl) (by simp) ?_
        refine AllReadyH.cons (by simp only [List.getElem?_toArray, List.getElem?_cons_zero, List.getElem?_cons_succ]; rfl) (fun K hK => ?_) (AllReadyH.cons (by simp only [List.getElem?_toArray, List.getElem?_cons_zero, List.getElem?_cons_succ]; rfl) (fun K hK => ?_) AllReadyH.nil)
        · rw [if_pos (by rfl)]
          go_simp
          go_at_call 21
          refine (HFq.out _ hB0).mono ?_
          rintro e w5 ⟨rfl, hb5⟩
          dsimp only
          have hB5 := hB0.trans (hb5.mono hB0.size)
          refine hK.out _ _ hB5 (fun _ => ?_)
          clear hK K
          refine wpAnyH_take (i := 9) (v := .tuple #[.agg #[.int .i64 (o.getD Sq.zero).lit, .int .i64 (o.getD Sq.zero).len, .int .i64 (o.getD Sq.zero).off], .bool o.isSome]) (by simp only [List.getElem?_toArray, List.getElem?_cons_zero, List.getElem?_cons_succ]; rfl) (by kernel_rfl) (by kernel_rfl) (by kernel_rfl) (fun _ _ _ h => h) (Or.inl ⟨by rfl, fun W hSw => ?_⟩) (by assumption) ?_
          · clear hSw
            go_simp
          simp only [Act.put, List.setIfInBounds_toArray, List.set_cons_zero, List.set_cons_succ]
          refine wpAnyH_take (i := 10) (v := .agg #[.int .i64 (o.getD Sq.zero).lit, .int .i64 (o.getD Sq.zero).len, .int .i64 (o.getD Sq.zero).off]) (by simp only [List.getElem?_toArray, List.getElem?_cons_zero, List.getElem?_cons_succ]; rfl) (by kernel_rfl) (by kernel_rfl) (by kernel_rfl) (fun _ _ _ h => h) (Or.inl ⟨by rfl, fun W hSw => ?_⟩) (by assumption) ?_
          · clear hSw
            go_simp
          simp only [Act.put, List.setIfInBounds_toArray, List.set_cons_zero, List.set_cons_succ]
          refine wpAnyH_take (i := 11) (v := .bool o.isSome) (by simp only [List.getElem?_toArray, List.getElem?_cons_zero, List.getElem?_cons_succ]; rfl) (by kernel_rfl) (by kernel_rfl) (by kernel_rfl) (fun _ _ _ h => h) (Or.inl ⟨by rfl, fun W hSw => ?_⟩) (by assumption) ?_
          · clear hSw
            go_simp
          simp only [Act.put, List.setIfInBounds_toArray, List.set_cons_zero, List.set_cons_succ]
          refine wpAnyH_ready (rs := [12]) (by kernel_rfl) (by simp) ?_
          refine AllReadyH.cons (by simp only [List.getElem?_toArray, List.getElem?_cons_zero, List.getElem?_cons_succ]; rfl) (fun K hK => ?_) AllReadyH.nil
          rw [if_pos (by rfl)]
          go_simp
          have hB6 := hB5.alloc hB5.size (.cells #[.int .i64 0, .int .i64 0, .int .i64 0] 45)
          refine hK.out _ _ hB6 (fun _ => ?_)
          clear hK K
          have hy := Blk.new w5 [.int .i64 (o.getD Sq.zero).lit, .int .i64 (o.getD Sq.zero).len, .int .i64 (o.getD Sq.zero).off] 45
          have hB7 := hB5.alloc hB5.size (.cells #[.int .i64 (o.getD Sq.zero).lit, .int .i64 (o.getD Sq.zero).len, .int .i64 (o.getD Sq.zero).off] 45)
          refine wpAnyH_ready (rs := [13]) (by kernel_rfl) (by simp) ?_
          refine AllReadyH.cons (by simp only [List.getElem?_toArray, List.getElem?_cons_zero, List.getElem?_cons_succ]; rfl) (fun K hK => ?_) AllReadyH.nil
          rw [if_pos (by rfl)]
          go_simp
          refine hK.out _ _ hB7 (fun _ => ?_)
          clear hK K
          refine wpAnyH_ready (rs := [14]) (by kernel_rfl) (by simp) ?_
          refine AllReadyH.cons (by simp only [List.getElem?_toArray, List.getElem?_cons_zero, List.getElem?_cons_succ]; rfl) (fun K hK => ?_) AllReadyH.nil
          rw [if_pos (by rfl)]
          go_simp
          refine hK.out _ _ hB7 (fun _ => ?_)
          clear hK K
          refine wpAnyH_done (by kernel_rfl) ?_ _
          refine NoPanic.normal ?_
          go_wp2
          go_meet
          exact ⟨w5.heap.size, rfl, rfl, hB5.size, hy, hB7⟩
        · rw [if_pos (by rfl)]
          go_simp
          have hB6 := hB0.alloc hB0.size (.cells #[.int .i64 0, .int .i64 0, .int .i64 0] 45)
          refine hK.out _ _ hB6 (fun _ => ?_)
          clear hK K
          have hy0 := Blk.new W1 [.int .i64 0, .int .i64 0, .int .i64 0] 45
          generalize hg6 : W1.alloc (.cells #[.int .i64 0, .int .i64 0, .int .i64 0] 45) = w6 at *
          refine wpAnyH_ready (rs := [8]) (by kernel_rfl) (by simp) ?_
          refine AllReadyH.cons (by simp only [List.getElem?_toArray, List.getElem?_cons_zero, List.getElem?_cons_succ]; rfl) (fun K hK => ?_) AllReadyH.nil
          rw [if_pos (by rfl)]
          go_simp
          go_at_call 21
          refine (HFq.out _ hB6).mono ?_
          rintro e w5 ⟨rfl, hb5⟩
          dsimp only
          have hB5 := hB6.trans (hb5.mono hB6.size)
          refine hK.out _ _ hB5 (fun _ => ?_)
          clear hK K
          have hy5 := hy0.below hb5 hy0.lt
          refine wpAnyH_take (i := 9) (v := .tuple #[.agg #[.int .i64 (o.getD Sq.zero).lit, .int .i64 (o.getD Sq.zero).len, .int .i64 (o.getD Sq.zero).off], .bool o.isSome]) (by simp only [List.getElem?_toArray, List.getElem?_cons_zero, List.getElem?_cons_succ]; rfl) (by kernel_rfl) (by kernel_rfl) (by kernel_rfl) (fun _ _ _ h => h) (Or.inl ⟨by rfl, fun W hSw => ?_⟩) (by assumption) ?_
          · clear hSw
            go_simp
          simp only [Act.put, List.setIfInBounds_toArray, List.set_cons_zero, List.set_cons_succ]
          refine wpAnyH_take (i := 10) (v := .agg #[.int .i64 (o.getD Sq.zero).lit, .int .i64 (o.getD Sq.zero).len, .int .i64 (o.getD Sq.zero).off]) (by simp only [List.getElem?_toArray, List.getElem?_cons_zero, List.getElem?_cons_succ]; rfl) (by kernel_rfl) (by kernel_rfl) (by kernel_rfl) (fun _ _ _ h => h) (Or.inl ⟨by rfl, fun W hSw => ?_⟩) (by assumption) ?_
          · clear hSw
            go_simp
          simp only [Act.put, List.setIfInBounds_toArray, List.set_cons_zero, List.set_cons_succ]
          refine wpAnyH_take (i := 11) (v := .bool o.isSome) (by simp only [List.getElem?_toArray, List.getElem?_cons_zero, List.getElem?_cons_succ]; rfl) (by kernel_rfl) (by kernel_rfl) (by kernel_rfl) (fun _ _ _ h => h) (Or.inl ⟨by rfl, fun W hSw => ?_⟩) (by assumption) ?_
          · clear hSw
            go_simp
          simp only [Act.put, List.setIfInBounds_toArray, List.set_cons_zero, List.set_cons_succ]
          have z0 := hy5.frozen 0
          have z1 := hy5.frozen 1
          have z2 := hy5.frozen 2
          have p0 := hy5.cell (k := 0) rfl
          have p1 := hy5.cell (k := 1) rfl
          have p2 := hy5.cell (k := 2) rfl
          have hs1 := hB0.size
          have hy := ((hy5.set 0 (.int .i64 (o.getD Sq.zero).lit)).set 1 (.int .i64 (o.getD Sq.zero).len)).set 2 (.int .i64 (o.getD Sq.zero).off)
          have hB7 := ((hB5.setCell (p := ⟨W1.heap.size, 0, none⟩) hs1 (.int .i64 (o.getD Sq.zero).lit)).setCell (p := ⟨W1.heap.size, 1, none⟩) hs1 (.int .i64 (o.getD Sq.zero).len)).setCell (p := ⟨W1.heap.size, 2, none⟩) hs1 (.int .i64 (o.getD Sq.zero).off)
          refine wpAnyH_ready (rs := [13]) (by kernel_rfl) (by simp) ?_
          refine AllReadyH.cons (by simp only [List.getElem?_toArray, List.getElem?_cons_zero, List.getElem?_cons_succ]; rfl) (fun K hK => ?_) AllReadyH.nil
          rw [if_pos (by rfl)]
          go_simp
          refine hK.out _ _ hB7 (fun _ => ?_)
          clear hK K
          refine wpAnyH_ready (rs := [14]) (by kernel_rfl) (by simp) ?_
          refine AllReadyH.cons (by simp only [List.getElem?_toArray, List.getElem?_cons_zero, List.getElem?_cons_succ]; rfl) (fun K hK => ?_) AllReadyH.nil
          rw [if_pos (by rfl)]
          go_simp
          refine hK.out _ _ hB7 (fun _ => ?_)
          clear hK K
          refine wpAnyH_done (by kernel_rfl) ?_ _
          refine NoPanic.normal ?_
          go_wp2
          go_meet
          exact ⟨W1.heap.size, rfl, rfl, hs1, hy, hB7⟩
      case rest =>
        obtain ⟨B, rfl, rfl, hWB, hy, hbx⟩ := hcut
        have HKc := hid (HKq.out.below hbx HKq.out.lt)
        have HRc := hid (HRq.out.below hbx HRq.out.lt)
        have HGc := hid (grown_below HGq.out hbx)
        have HBc := hid (HBq.out.trans (hbx.mono HBq.out.size))
        have hkW := HKq.out.lt
        have hrW := HRq.out.lt
        clear hbx HKq HRq HGq HBq
        cases o with
        | none =>
          have hgo : greedyA find least q = .go (q + 1) := by unfold greedyA; rw [HO.out]
          have HN := hid (show scanS (greedyA find least) size (q + 1) = S0 ∧ p ≤ q + 1 from ⟨by rw [← HI.out.1, scanS_go HOk.out hq hgo], by have := HI.out.2; omega⟩)
          have hsz := HSz.out
          have hpf := HFP.out
          have hpq := HI.out.2
          have hw1 : IntKind.i64.wrap (q + 1) = q + 1 := by rw [IntKind.wrap_i64]; omega
          dsimp only [Option.isSome]
          clear hgo hy hsz hpf hpq
          go_wp2_with fail
          go_quiet (fail)
          have hKw : Blk (wc.drewN nq) Wk [.pointer (some ⟨F, 0, none⟩), .int .i64 q, .int .i64 frm, .int .i64 least] 94 := HKc.out
          have hRw : Blk (wc.drewN nq) w.heap.size [.int .i64 0, .int .i64 0, .int .i64 0, .int .i64 0] 72 := HRc.out
          have hGw := grown_below HGc.out (below_drewN (Below.refl wc.heap.size wc) nq)
          have hBw := below_drewN HBc.out nq
          generalize wc.drewN nq = W5 at *
          have k1 := hKw.cell (k := 1) rfl
          have z1 := hKw.frozen 1
          have hne : Wk ≠ w.heap.size := by omega
          have HK9 := hid (hKw.set 1 (.int .i64 (q + 1)))
          have HR9 := hid (hRw.other (a := ⟨Wk, 1, none⟩) (.int .i64 (q + 1)) hne)
          have HG9 := hid (grown_set hGw ⟨Wk, 1, none⟩ (.int .i64 (q + 1)) (.inl rfl))
          have HB9 := hid (hBw.setCell (p := ⟨Wk, 1, none⟩) hWk (.int .i64 (q + 1)))
          clear hKw hRw hGw hBw HKc HRc HGc HBc
          go_wp2
          go_roundg (size - (q + 1)).toNat
          case measure => omega
          case rel => exact ⟨q + 1, HN, rfl, HK9.out, HR9.out, HG9.out, HB9.out⟩
        | some s =>
          have hfm := HFm.out q s HO.out
          obtain ⟨lit, len, off⟩ := s
          dsimp only [Option.isSome, Option.getD, sqc] at hy hfm ⊢
          obtain ⟨rfl, hm1, hm2, hm3, hm4, hm5, hm6⟩ := hfm
          have y1 := hy.cell (k := 1) rfl
          have k3 := HKc.out.cell (k := 3) rfl
          have HY := hid hy
          by_cases hle : len < least
          · have hgo : greedyA find least q = .go (q + 1) := by unfold greedyA; rw [HO.out]; dsimp only; rw [if_pos hle]
            have HN := hid (show scanS (greedyA find least) size (q + 1) = S0 ∧ p ≤ q + 1 from ⟨by rw [← HI.out.1, scanS_go HOk.out hq hgo], by have := HI.out.2; omega⟩)
            have hsz := HSz.out
            have hpf := HFP.out
            have hpq := HI.out.2
            have hw1 : IntKind.i64.wrap (q + 1) = q + 1 := by rw [IntKind.wrap_i64]; omega
            clear hgo hy hsz hpf hpq
            go_wp2_with fail
            have hdec : decide (len < least) = true := decide_eq_true (by omega)
            go_quiet (fail)
            clear y1 k3 hdec
            have hKw : Blk (wc.drewN nq) Wk [.pointer (some ⟨F, 0, none⟩), .int .i64 q, .int .i64 frm, .int .i64 least] 94 := HKc.out
            have hRw : Blk (wc.drewN nq) w.heap.size [.int .i64 0, .int .i64 0, .int .i64 0, .int .i64 0] 72 := HRc.out
            have hGw := grown_below HGc.out (below_drewN (Below.refl wc.heap.size wc) nq)
            have hBw := below_drewN HBc.out nq
            generalize wc.drewN nq = W5 at *
            have k1 := hKw.cell (k := 1) rfl
            have z1 := hKw.frozen 1
            have hne : Wk ≠ w.heap.size := by omega
            have HK9 := hid (hKw.set 1 (.int .i64 (q + 1)))
            have HR9 := hid (hRw.other (a := ⟨Wk, 1, none⟩) (.int .i64 (q + 1)) hne)
            have HG9 := hid (grown_set hGw ⟨Wk, 1, none⟩ (.int .i64 (q + 1)) (.inl rfl))
            have HB9 := hid (hBw.setCell (p := ⟨Wk, 1, none⟩) hWk (.int .i64 (q + 1)))
            clear hKw hRw hGw hBw HKc HRc HGc HBc
            go_wp2
            go_roundg (size - (q + 1)).toNat
            case measure => omega
            case rel => exact ⟨q + 1, HN, rfl, HK9.out, HR9.out, HG9.out, HB9.out⟩
          · have hgo : greedyA find least q = .take ⟨0, len, off⟩ := by unfold greedyA; rw [HO.out]; dsimp only; rw [if_neg hle]
            have hS : S0 = some (q, ⟨0, len, off⟩) := by rw [← HI.out.1, scanS_take hq hgo]
            subst hS
            have hpf := HFP.out
            have hpq := HI.out.2
            have hsz := HSz.out
            have hw3 : IntKind.i64.wrap (q - frm) = q - frm := by rw [IntKind.wrap_i64]; omega
            have hw4 : IntKind.i64.wrap (q + len) = q + len := by rw [IntKind.wrap_i64]; omega
            have hWkB : Wk ≠ B := by omega
            have hRB : w.heap.size ≠ B := by omega
            have hRK : Wk ≠ w.heap.size := by omega
            clear hgo hy hsz hpf hpq hm1 hm2 hm3 hm4 hm5 hm6
            go_wp2_with fail
            have hdec : decide (len < least) = false := decide_eq_false (by omega)
            go_quiet (fail)
            clear y1 k3 hdec
            have hYw : Blk (wc.drewN nq) B [.int .i64 0, .int .i64 len, .int .i64 off] 45 := HY.out
            have hKw : Blk (wc.drewN nq) Wk [.pointer (some ⟨F, 0, none⟩), .int .i64 q, .int .i64 frm, .int .i64 least] 94 := HKc.out
            have hRw : Blk (wc.drewN nq) w.heap.size [.int .i64 0, .int .i64 0, .int .i64 0, .int .i64 0] 72 := HRc.out
            have hGw := grown_below HGc.out (below_drewN (Below.refl wc.heap.size wc) nq)
            generalize wc.drewN nq = W5 at *
            have k1 := hKw.cell (k := 1) rfl
            have k2 := hKw.cell (k := 2) rfl
            have y0 := hYw.cell (k := 0) rfl
            have yz0 := hYw.frozen 0
            have HYw := hid (hYw.set 0 (.int .i64 (q - frm)))
            have HKw := hid (hKw.other (a := ⟨B, 0, none⟩) (.int .i64 (q - frm)) (Ne.symm hWkB))
            have HRw := hid (hRw.other (a := ⟨B, 0, none⟩) (.int .i64 (q - frm)) (Ne.symm hRB))
            have HGw := hid (grown_set hGw ⟨B, 0, none⟩ (.int .i64 (q - frm)) (.inr (show w.heap.size ≤ B by omega)))
            clear hYw hKw hRw hGw HY HKc HRc HGc HBc
            go_wp2_with fail
            go_region
            clear k1 k2 y0 yz0
            have hYw : Blk (W5.setCell ⟨B, 0, none⟩ (.int .i64 (q - frm))).drew B [.int .i64 (q - frm), .int .i64 len, .int .i64 off] 45 := HYw.out
            have hKw : Blk (W5.setCell ⟨B, 0, none⟩ (.int .i64 (q - frm))).drew Wk [.pointer (some ⟨F, 0, none⟩), .int .i64 q, .int .i64 frm, .int .i64 least] 94 := HKw.out
            have hRw : Blk (W5.setCell ⟨B, 0, none⟩ (.int .i64 (q - frm))).drew w.heap.size [.int .i64 0, .int .i64 0, .int .i64 0, .int .i64 0] 72 := HRw.out
            have hGw := grown_below HGw.out (Below.refl _ _).drew
            generalize (W5.setCell ⟨B, 0, none⟩ (.int .i64 (q - frm))).drew = W6 at *
            have k1 := hKw.cell (k := 1) rfl
            have y0 := hYw.cell (k := 0) rfl
            have y1 := hYw.cell (k := 1) rfl
            have y2 := hYw.cell (k := 2) rfl
            have hyl := hYw.lt
            have hkl := hKw.lt
            have HY6 := hid hYw
            have HK6 := hid hKw
            have HR6 := hid hRw
            have HG6 := hid hGw
            clear hYw hKw hRw hGw HYw HKw HRw HGw
            go_wp2_with fail
            go_region
            clear k1 y0 y1 y2
            have hYw : Blk (W6.alloc (.cells #[.int .i64 q, .int .i64 (q - frm), .int .i64 len, .int .i64 off] 72)).drew B [.int .i64 (q - frm), .int .i64 len, .int .i64 off] 45 := HY6.out.alloc _
            have hKw : Blk (W6.alloc (.cells #[.int .i64 q, .int .i64 (q - frm), .int .i64 len, .int .i64 off] 72)).drew Wk [.pointer (some ⟨F, 0, none⟩), .int .i64 q, .int .i64 frm, .int .i64 least] 94 := HK6.out.alloc _
            have hRw : Blk (W6.alloc (.cells #[.int .i64 q, .int .i64 (q - frm), .int .i64 len, .int .i64 off] 72)).drew w.heap.size [.int .i64 0, .int .i64 0, .int .i64 0, .int .i64 0] 72 := HR6.out.alloc _
            have hXw : Blk (W6.alloc (.cells #[.int .i64 q, .int .i64 (q - frm), .int .i64 len, .int .i64 off] 72)).drew W6.heap.size [.int .i64 q, .int .i64 (q - frm), .int .i64 len, .int .i64 off] 72 := Blk.new _ _ _
            have hGw := grown_below HG6.out (below_new W6 (.cells #[.int .i64 q, .int .i64 (q - frm), .int .i64 len, .int .i64 off] 72)).drew
            have hX1 := HK6.out.lt
            have hX2 := HR6.out.lt
            generalize (W6.alloc (.cells #[.int .i64 q, .int .i64 (q - frm), .int .i64 len, .int .i64 off] 72)).drew = W7 at *
            generalize W6.heap.size = G at *
            have hne1 : Wk ≠ G := by omega
            have hne2 : w.heap.size ≠ G := by omega
            have k1 := hKw.cell (k := 1) rfl
            have kz1 := hKw.frozen 1
            have y1 := hYw.cell (k := 1) rfl
            have hK8 := hKw.set 1 (.int .i64 (q + len))
            have hR8 := hRw.other (a := ⟨Wk, 1, none⟩) (.int .i64 (q + len)) hRK
            have hX8 := hXw.other (a := ⟨Wk, 1, none⟩) (.int .i64 (q + len)) hne1
            have hG8 := grown_set hGw ⟨Wk, 1, none⟩ (.int .i64 (q + len)) (.inl rfl)
            have HK8 := hid hK8
            have HR8 := hid hR8
            have HX8 := hid hX8
            have HG8 := hid hG8
            clear hYw hKw hRw hXw hGw HY6 HK6 HR6 HG6 hX1 hX2 hK8 hR8 hX8 hG8 hyl hkl
            go_wp2_with fail
            go_region
            clear k1 kz1 y1
            have hK9 : Blk (W7.setCell ⟨Wk, 1, none⟩ (.int .i64 (q + len))).drew Wk [.pointer (some ⟨F, 0, none⟩), .int .i64 (q + len), .int .i64 frm, .int .i64 least] 94 := HK8.out
            have hR9 : Blk (W7.setCell ⟨Wk, 1, none⟩ (.int .i64 (q + len))).drew w.heap.size [.int .i64 0, .int .i64 0, .int .i64 0, .int .i64 0] 72 := HR8.out
            have hX9 : Blk (W7.setCell ⟨Wk, 1, none⟩ (.int .i64 (q + len))).drew G [.int .i64 q, .int .i64 (q - frm), .int .i64 len, .int .i64 off] 72 := HX8.out
            have hG9 := grown_below HG8.out (Below.refl _ _).drew
            generalize (W7.setCell ⟨Wk, 1, none⟩ (.int .i64 (q + len))).drew = W9 at *
            have k1 := hK9.cell (k := 1) rfl
            have k2 := hK9.cell (k := 2) rfl
            have kz2 := hK9.frozen 2
            have HKa := hid (hK9.set 2 (.int .i64 (q + len)))
            have hRa := hR9.other (a := ⟨Wk, 2, none⟩) (.int .i64 (q + len)) hRK
            have hXa := hX9.other (a := ⟨Wk, 2, none⟩) (.int .i64 (q + len)) hne1
            have hGa := grown_set hG9 ⟨Wk, 2, none⟩ (.int .i64 (q + len)) (.inl rfl)
            have HRa := hid hRa
            have HXa := hid hXa
            have HGa := hid hGa
            clear hK9 hR9 hX9 hG9 HK8 HR8 HX8 HG8 hRa hXa hGa
            go_upto_region 9 with fail
            clear k1 k2 kz2
            have hKb := HKa.out
            have hRb := HRa.out
            have hXb := HXa.out
            have hGb := HGa.out
            generalize W9.setCell ⟨Wk, 2, none⟩ (.int .i64 (q + len)) = Wa at *
            have x0 := hXb.cell (k := 0) rfl
            have x1 := hXb.cell (k := 1) rfl
            have x2 := hXb.cell (k := 2) rfl
            have x3 := hXb.cell (k := 3) rfl
            have z0 := hRb.frozen 0
            have z1 := hRb.frozen 1
            have z2 := hRb.frozen 2
            have z3 := hRb.frozen 3
            have p0 := hRb.cell (k := 0) rfl
            have p1 := hRb.cell (k := 1) rfl
            have p2 := hRb.cell (k := 2) rfl
            have p3 := hRb.cell (k := 3) rfl
            have hne := Ne.symm hRK
            have HR9 := hid ((((hRb.set 0 (.int .i64 q)).set 1 (.int .i64 (q - frm))).set 2 (.int .i64 len)).set 3 (.int .i64 off))
            have HG9 := hid (grown_set (grown_set (grown_set (grown_set hGb ⟨w.heap.size, 0, none⟩ (.int .i64 q) (.inr (Nat.le_refl _))) ⟨w.heap.size, 1, none⟩ (.int .i64 (q - frm)) (.inr (Nat.le_refl _))) ⟨w.heap.size, 2, none⟩ (.int .i64 len) (.inr (Nat.le_refl _))) ⟨w.heap.size, 3, none⟩ (.int .i64 off) (.inr (Nat.le_refl _)))
            have HK9 := hid ((((hKb.other (a := ⟨w.heap.size, 0, none⟩) (.int .i64 q) hne).other (a := ⟨w.heap.size, 1, none⟩) (.int .i64 (q - frm)) hne).other (a := ⟨w.heap.size, 2, none⟩) (.int .i64 len) hne).other (a := ⟨w.heap.size, 3, none⟩) (.int .i64 off) hne)
            clear hKb hRb hXb hGb HKa HRa HXa HGa
            go_wp2
            have r0 := HR9.out.cell (k := 0) rfl
            have r1 := HR9.out.cell (k := 1) rfl
            have r2 := HR9.out.cell (k := 2) rfl
            have r3 := HR9.out.cell (k := 3) rfl
            refine bodyPost_ret (v := .tuple #[.agg #[.int .i64 q, .int .i64 (q - frm), .int .i64 len, .int .i64 off], .bool true]) (by simp [results, Try.results51, go_sem, r0, r1, r2, r3]) rfl ?_
            exact ⟨⟨rfl, HK9.out⟩, HG9.out⟩
    · have hSn : S0 = none := by rw [← HI.out.1, scanS_end _ (by omega)]
      go_wp2_with fail
      go_quiet ((go_at_call 29; first | exact quiet_left3 (HLe.out _ (below_drewN HBr.out _)) | exact quiet_left0 (HLe.out _ (below_drewN HBr.out _))))
      have hRq : Blk (wr.drewN nq) w.heap.size [.int .i64 0, .int .i64 0, .int .i64 0, .int .i64 0] 72 := HRr.out
      have hGq := grown_below HGr.out (below_drewN (Below.refl wr.heap.size wr) nq)
      have hKq : Blk (wr.drewN nq) Wk [.pointer (some ⟨F, 0, none⟩), .int .i64 q, .int .i64 frm, .int .i64 least] 94 := HKr.out
      generalize wr.drewN nq = W0 at *
      have z0 := hRq.frozen 0
      have z1 := hRq.frozen 1
      have z2 := hRq.frozen 2
      have z3 := hRq.frozen 3
      have p0 := hRq.cell (k := 0) rfl
      have p1 := hRq.cell (k := 1) rfl
      have p2 := hRq.cell (k := 2) rfl
      have p3 := hRq.cell (k := 3) rfl
      have hne : w.heap.size ≠ Wk := by omega
      have HR9 := hid ((((hRq.set 0 (.int .i64 0)).set 1 (.int .i64 0)).set 2 (.int .i64 0)).set 3 (.int .i64 0))
      have HG9 := hid (grown_set (grown_set (grown_set (grown_set hGq ⟨w.heap.size, 0, none⟩ (.int .i64 0) (.inr (Nat.le_refl _))) ⟨w.heap.size, 1, none⟩ (.int .i64 0) (.inr (Nat.le_refl _))) ⟨w.heap.size, 2, none⟩ (.int .i64 0) (.inr (Nat.le_refl _))) ⟨w.heap.size, 3, none⟩ (.int .i64 0) (.inr (Nat.le_refl _)))
      have HK9 := hid ((((hKq.other (a := ⟨w.heap.size, 0, none⟩) (.int .i64 0) hne).other (a := ⟨w.heap.size, 1, none⟩) (.int .i64 0) hne).other (a := ⟨w.heap.size, 2, none⟩) (.int .i64 0) hne).other (a := ⟨w.heap.size, 3, none⟩) (.int .i64 0) hne)
      clear hRq hGq hKq HKr HRr HGr HBr k0 k1
      subst hSn
      go_wp2
      have r0 := HR9.out.cell (k := 0) rfl
      have r1 := HR9.out.cell (k := 1) rfl
      have r2 := HR9.out.cell (k := 2) rfl
      have r3 := HR9.out.cell (k := 3) rfl
      refine bodyPost_ret (v := .tuple #[.agg #[.int .i64 0, .int .i64 0, .int .i64 0, .int .i64 0], .bool false]) (by simp [results, Try.results51, go_sem, r0, r1, r2, r3]) rfl ?_
      exact ⟨⟨rfl, q, HK9.out⟩, HG9.out⟩
end Go.Proofs.Ytngphgdoolcpcaa
