/-
  The walks of layer 31: a longer match within the lookahead. The walks of layer 31: the next step of a lazy walk. The walks of layer 31: the steps of a lazy plan. The walks of layer 31: steps that are not made; Lookahead.
-/
import Derived.Test.YtlgablepckmogaaGreatQ11
import Derived.Test.YtlgablepckmogaaGreatQ36
import Derived.Test.YtlgablepckmogaaGreatQ08
import Derived.Test.YtlgablepckmogaaGreatQ09
namespace Go.Port
open Go.RowKit
/-- What 'longer' hands back. -/
def longR (o : Option Int) : Value := .tuple #[.int .i64 (o.getD 0), .bool o.isSome]
end Go.Port
namespace Go.Proofs.YtlgablepckmogaaGreat
open Go.RowKit Go.Port
set_option maxRecDepth 100000 in
set_option maxHeartbeats 4000000 in
theorem lzlonger_any (bs : List UInt8) (A : Nat) (W D : Int) (F Wk : Nat) (p frm n : Int) (far : Nat) (w0 w : World) (h : FdAt 50 79 bs A W D F w0) (hb0 : Below w0.heap.size w0 w)
    (hk : Blk w Wk [.pointer (some ⟨F, 0, none⟩), .int .i64 p, .int .i64 frm, .int .i64 (far : Int)] 151) (hp : 0 ≤ p) (hp2 : p ≤ 1000000) (hfar : far ≤ 8) :
    Calls Tryz.prog 102 #[.pointer (some ⟨Wk, 0, none⟩), .int .i64 n] w (RetV w (longR (longerS (findS bs A W D) p n far))) := by
  have HFi := hid (fun W' (hW' : Below w0.heap.size w0 W') (q : Int) => cfind_any bs A W D F q W' (h.low hW'))
  have HK := hid hk
  have HB := hid hb0
  have k1 := hk.cell (k := 1) rfl
  obtain ⟨R, hR⟩ : ∃ R, longerS (findS bs A W D) p n far = R := ⟨_, rfl⟩
  rw [hR]
  have HR := hid (show longerGo (findS bs A W D) p n far (p + 1 - p) = R from by rw [show p + 1 - p = 1 by omega]; exact hR)
  unfold sqv at HFi
  clear h hk hb0 hR
  generalize findS bs A W D = find at *
  go_enter Tryz.func102, Tryz.ntmps102
  go_wp2
  clear k1
  go_loopg [6] far (fun g t wr => ∃ (f : Nat) (q : Int), f = g ∧ t = .int .i64 q ∧ Hid (q + (f : Int) = p + (far : Int) + 1 ∧ p + 1 ≤ q ∧ longerGo find p n f (q - p) = R) ∧ Below w.heap.size w wr)
  case atStart => exact ⟨far, p + 1, rfl, rfl, hid ⟨by omega, Int.le_refl _, HR.out⟩, Below.refl _ _⟩
  case round =>
    obtain ⟨f, q, hfg, rfl, HI, hb⟩ := hrel
    have HFg := hid hfg
    clear hfg
    have hkr := HK.out.below hb HK.out.lt
    have k0 := hkr.cell (k := 0) rfl
    have k1 := hkr.cell (k := 1) rfl
    have k3 := hkr.cell (k := 3) rfl
    have hi := HI.out
    have hw1 : IntKind.i64.wrap (p + (far : Int)) = p + (far : Int) := by rw [IntKind.wrap_i64]; omega
    have HBr := hid hb
    clear hkr hb
    cases f with
    | zero =>
      have hd : decide (q ≤ p + (far : Int)) = false := decide_eq_false (by omega)
      have hRn : R = none := hi.2.2.symm
      subst hRn
      clear hi
      go_wp2_with fail
      go_quiet (fail)
      have HB2 := hid (below_drewN HBr.out nq)
      clear k0 k1 k3
      go_wp2
      go_ret2
      exact ⟨rfl, HB2.out⟩
    | succ f =>
      have hd : decide (q ≤ p + (far : Int)) = true := decide_eq_true (by omega)
      have hq1 : 0 ≤ q ∧ q ≤ 2000000 := by omega
      have HQ := hid hq1
      obtain ⟨o, ho⟩ : ∃ o, find q = o := ⟨_, rfl⟩
      have hcall := HFi.out (wr) (HB.out.trans (HBr.out.mono HB.out.size)) q
      have HFq := hid (fun W' hW' => HFi.out W' hW' q)
      rw [ho] at HFq
      have HO := hid ho
      clear hi hcall ho
      go_wp2_with fail
      go_quiet (fail)
      clear k1 k3 k0
      have HB2 := hid (below_drewN HBr.out nq)
      have hkr := HK.out.below HB2.out HK.out.lt
      have k0 := hkr.cell (k := 0) rfl
      generalize wr.drewN nq = w1 at *
      clear hkr hd hw1
      go_wp2_with fail
      refine (HFq.out _ (HB.out.trans (HB2.out.mono HB.out.size))).mono ?_
      rintro e w2 ⟨rfl, hb2⟩
      dsimp only
      have HB3 := hid (HB2.out.trans ((hb2.alloc hb2.size (.cells #[.int .i64 (o.getD Sq.zero).lit, .int .i64 (o.getD Sq.zero).len, .int .i64 (o.getD Sq.zero).off] 43)).mono HB2.out.size))
      clear hb2 k0
      have hq2 := HQ.out
      have hw3 : IntKind.i64.wrap (q + 1) = q + 1 := by rw [IntKind.wrap_i64]; omega
      cases o with
      | none =>
        have HN := hid (show longerGo find p n f (q + 1 - p) = R from by
          rw [← HI.out.2.2, longerGo_step (fun s hs => by rw [show p + (q - p) = q by omega, HO.out] at hs; cases hs)]
          congr 1
          omega)
        dsimp only [Option.isSome, Option.getD, Sq.zero] at HB3 ⊢
        clear hq2
        go_wp2
        go_roundg f
        case measure => have := HFg.out; omega
        case rel => exact ⟨f, q + 1, rfl, rfl, hid ⟨by have := HI.out.1; omega, by have := HI.out.2.1; omega, HN.out⟩, HB3.out⟩
      | some s =>
        obtain ⟨lit, len, off⟩ := s
        dsimp only [Option.isSome, Option.getD] at HB3 ⊢
        by_cases hl : n < len
        · have hRs : R = some q := by
            rw [← HI.out.2.2, longerGo_hit (s := ⟨lit, len, off⟩) (by rw [show p + (q - p) = q by omega]; exact HO.out) hl]
            congr 1
            omega
          subst hRs
          clear hq2
          go_wp2
          go_ret2
          exact ⟨rfl, HB3.out⟩
        · have HN := hid (show longerGo find p n f (q + 1 - p) = R from by
            rw [← HI.out.2.2, longerGo_step (fun s hs => by rw [show p + (q - p) = q by omega, HO.out] at hs; cases hs; exact hl)]
            congr 1
            omega)
          clear hq2
          go_wp2
          go_roundg f
          case measure => have := HFg.out; omega
          case rel => exact ⟨f, q + 1, rfl, rfl, hid ⟨by have := HI.out.1; omega, by have := HI.out.2.1; omega, HN.out⟩, HB3.out⟩
end Go.Proofs.YtlgablepckmogaaGreat
namespace Go.Proofs.YtlgablepckmogaaGreat
open Go.RowKit Go.Port
set_option maxRecDepth 100000 in
set_option maxHeartbeats 8000000 in
theorem lznext_any (bs : List UInt8) (A : Nat) (W D : Int) (F Wk : Nat) (p frm : Int) (far : Nat) (w0 w : World) (h : FdAt 50 79 bs A W D F w0) (hb0 : Below w0.heap.size w0 w) (hWk : w0.heap.size ≤ Wk)
    (hk : Blk w Wk [.pointer (some ⟨F, 0, none⟩), .int .i64 p, .int .i64 frm, .int .i64 (far : Int)] 151) (hf : 0 ≤ frm) (hfp : frm ≤ p) (hfar : far ≤ 8) :
    Calls Tryz.prog 81 #[.pointer (some ⟨Wk, 0, none⟩)] w fun e w' => (match scanS (lazyA (findS bs A W D) far) ((bs.length : Int) - A) p with
      | none => e = .returned (.tuple #[stv (0, Sq.zero), .bool false]) ∧ ∃ q, Blk w' Wk [.pointer (some ⟨F, 0, none⟩), .int .i64 q, .int .i64 frm, .int .i64 (far : Int)] 151
      | some (q, s) => e = .returned (.tuple #[stv (q, ⟨q - frm, s.len, s.off⟩), .bool true]) ∧ Blk w' Wk [.pointer (some ⟨F, 0, none⟩), .int .i64 (q + s.len), .int .i64 (q + s.len), .int .i64 (far : Int)] 151) ∧ w.grownBy w' (some Wk) := by
  have HFi := hid (fun W' (hW' : Below w0.heap.size w0 W') (q : Int) => cfind_any bs A W D F q W' (h.low hW'))
  have HLe := hid (fun W' (hW' : Below w0.heap.size w0 W') => clen_any bs A W D F W' (h.low hW'))
  have HFm := hid (fun q s => @findS_form bs A W D q s)
  have HLg := hid (fun W' (hW' : Below w0.heap.size w0 W') (q n : Int) hk' h0 h1 => lzlonger_any bs A W D F Wk q frm n far w0 W' h hW' hk' h0 h1 hfar)
  have HOk := hid (lazy_ok (B := bs) (A := A) (W := W) (D := D) (far := far))
  have hbn := h.hn
  have hszI : (bs.length : Int) - (A : Int) ≤ 1000000 := by omega
  have HSz := hid hszI
  have hklt := hk.lt
  have HK := hid (hk.alloc (.cells #[.int .i64 0, .int .i64 0, .int .i64 0, .int .i64 0] 119))
  have HR := hid (Blk.new w [.int .i64 0, .int .i64 0, .int .i64 0, .int .i64 0] 119)
  have HG := hid (World.grownBy_alloc w (.cells #[.int .i64 0, .int .i64 0, .int .i64 0, .int .i64 0] 119) (some Wk))
  have HB := hid (hb0.alloc hb0.size (.cells #[.int .i64 0, .int .i64 0, .int .i64 0, .int .i64 0] 119))
  have HFP := hid (And.intro hf hfp)
  unfold stv
  unfold sqv at HFi
  clear h hb0 hk hbn hszI hf hfp
  generalize (bs.length : Int) - (A : Int) = size at *
  generalize findS bs A W D = find at *
  obtain ⟨S0, hS0⟩ : ∃ S0, scanS (lazyA find far) size p = S0 := ⟨_, rfl⟩
  rw [hS0]
  have HS0 := hid hS0
  clear hS0
  go_enter Tryz.func81, Tryz.ntmps81
  go_wp2
  generalize w.alloc (.cells #[.int .i64 0, .int .i64 0, .int .i64 0, .int .i64 0] 119) = w1 at *
  go_loopg [] (size - p).toNat (fun g wr => ∃ q, Hid (scanS (lazyA find far) size q = S0 ∧ p ≤ q) ∧ (size - q).toNat = g ∧ Blk wr Wk [.pointer (some ⟨F, 0, none⟩), .int .i64 q, .int .i64 frm, .int .i64 (far : Int)] 151 ∧ Blk wr w.heap.size [.int .i64 0, .int .i64 0, .int .i64 0, .int .i64 0] 119 ∧ w.grownBy wr (some Wk) ∧ Below w0.heap.size w0 wr)
  case atStart => exact ⟨p, hid ⟨HS0.out, Int.le_refl _⟩, rfl, HK.out, HR.out, HG.out, HB.out⟩
  case round =>
    obtain ⟨q, HI, hgq, hkr, hrr, hgr, hbr⟩ := hrel
    have k0 := hkr.cell (k := 0) rfl
    have k1 := hkr.cell (k := 1) rfl
    have HKr := hid hkr
    have HRr := hid hrr
    have HGr := hid hgr
    have HBr := hid hbr
    clear hkr hrr hgr hbr
    by_cases hq : q < size
    · go_wp2_with fail
      go_quiet ((go_at_call 79; first | exact quiet_left3 (HLe.out _ (below_drewN HBr.out _)) | exact quiet_left0 (HLe.out _ (below_drewN HBr.out _))))
      have hKq : Blk (wr.drewN nq) Wk [.pointer (some ⟨F, 0, none⟩), .int .i64 q, .int .i64 frm, .int .i64 (far : Int)] 151 := HKr.out
      have hRq : Blk (wr.drewN nq) w.heap.size [.int .i64 0, .int .i64 0, .int .i64 0, .int .i64 0] 119 := HRr.out
      have hGq := grown_below HGr.out (below_drewN (Below.refl wr.heap.size wr) nq)
      have hBq := below_drewN HBr.out nq
      generalize wr.drewN nq = W0 at *
      have HKq := hid hKq
      have HRq := hid hRq
      have HGq := hid hGq
      have HBq := hid hBq
      have HFq := hid (fun W' (hW : Below W0.heap.size W0 W') => HFi.out W' (HBq.out.trans (hW.mono HBq.out.size)) q)
      clear hKq hRq hGq hBq HKr HRr HGr HBr k0 k1
      obtain ⟨o, ho⟩ : ∃ o, find q = o := ⟨_, rfl⟩
      rw [ho] at HFq
      have HO := hid ho
      clear ho
      go_upto_region 2 with fail
      go_cut [4, 5] (fun t4 t5 wx => ∃ B, t4 = .pointer (some ⟨B, 0, none⟩) ∧ t5 = .bool o.isSome ∧ W0.heap.size ≤ B ∧ Blk wx B (sqc (o.getD Sq.zero)) 43 ∧ Below W0.heap.size W0 wx)
      case first =>
        have hB0 : Below W0.heap.size W0 W0.drew := (Below.refl _ _).drew
        refine wp_region_noPanic ?_
        refine wp_region_held_drew (S := fun W => Below W0.heap.size W0 W) (by kernel_rfl) hB0 (fun hHeld => ?_)
        generalize W0.drew = W1 at *
        refine wpAnyH_take (i := 0) (v := .pointer (some ⟨Wk, 0, none⟩)) (by simp only [List.getElem?_toArray, List.getElem?_cons_zero]; rfl) (by kernel_rfl) (by kernel_rfl) (by kernel_rfl) (fun _ _ _ h => h) (Or.inl ⟨by rfl, fun W hSw => ?_⟩) (by assumption) ?_
        · clear hSw
          go_simp
        simp only [Act.put, List.setIfInBounds_toArray, List.set_cons_zero, List.set_cons_succ]
        refine wpAnyH_take (i := 1) (v := .pointer (some ⟨Wk, 0, none⟩)) (by simp only [List.getElem?_toArray, List.getElem?_cons_zero, List.getElem?_cons_succ]; rfl) (by kernel_rfl) (by kernel_rfl) (by kernel_rfl) (fun _ _ _ h => h) (Or.inl ⟨by rfl, fun W hSw => ?_⟩) (by assumption) ?_
        · clear hSw
          go_simp
        simp only [Act.put, List.setIfInBounds_toArray, List.set_cons_zero, List.set_cons_succ]
        refine wpAnyH_take (i := 2) (v := .pointer (some ⟨Wk, 0, none⟩)) (by simp only [List.getElem?_toArray, List.getElem?_cons_zero, List.getElem?_cons_succ]; rfl) (by kernel_rfl) (by kernel_rfl) (by kernel_rfl) (fun _ _ _ h => h) (Or.inl ⟨by rfl, fun W hSw => ?_⟩) (by assumption) ?_
        · clear hSw
          go_simp
        simp only [Act.put, List.setIfInBounds_toArray, List.set_cons_zero, List.set_cons_succ]
        refine wpAnyH_take (i := 3) (v := .pointer (some ⟨F, 0, none⟩)) (by simp only [List.getElem?_toArray, List.getElem?_cons_zero, List.getElem?_cons_succ]; rfl) (by kernel_rfl) (by kernel_rfl) (by kernel_rfl) (fun _ _ _ h => h) (Or.inl ⟨by rfl, fun W hSw => ?_⟩) (by assumption) ?_
        · have hcw := (hSw.cell (p := ⟨Wk, 0, none⟩) HKq.out.lt).trans (HKq.out.cell (k := 0) rfl)
          go_simp
        simp only [Act.put, List.setIfInBounds_toArray, List.set_cons_zero, List.set_cons_succ]
        refine wpAnyH_take (i := 4) (v := .pointer (some ⟨Wk, 0, none⟩)) (by simp only [List.getElem?_toArray, List.getElem?_cons_zero, List.getElem?_cons_succ]; rfl) (by kernel_rfl) (by kernel_rfl) (by kernel_rfl) (fun _ _ _ h => h) (Or.inl ⟨by rfl, fun W hSw => ?_⟩) (by assumption) ?_
        · clear hSw
          go_simp
        simp only [Act.put, List.setIfInBounds_toArray, List.set_cons_zero, List.set_cons_succ]
        refine wpAnyH_take (i := 5) (v := .pointer (some ⟨Wk, 0, none⟩)) (by simp only [List.getElem?_toArray, List.getElem?_cons_zero, List.getElem?_cons_succ]; rfl) (by kernel_rfl) (by kernel_rfl) (by kernel_rfl) (fun _ _ _ h => h) (Or.inl ⟨by rfl, fun W hSw => ?_⟩) (by assumption) ?_
        · clear hSw
          go_simp
        simp only [Act.put, List.setIfInBounds_toArray, List.set_cons_zero, List.set_cons_succ]
        refine wpAnyH_take (i := 6) (v := .pointer (some ⟨Wk, 1, none⟩)) (by simp only [List.getElem?_toArray, List.getElem?_cons_zero, List.getElem?_cons_succ]; rfl) (by kernel_rfl) (by kernel_rfl) (by kernel_rfl) (fun _ _ _ h => h) (Or.inl ⟨by rfl, fun W hSw => ?_⟩) (by assumption) ?_
        · clear hSw
          go_simp
        simp only [Act.put, List.setIfInBounds_toArray, List.set_cons_zero, List.set_cons_succ]
        refine wpAnyH_take (i := 7) (v := .int .i64 q) (by simp only [List.getElem?_toArray, List.getElem?_cons_zero, List.getElem?_cons_succ]; rfl) (by kernel_rfl) (by kernel_rfl) (by kernel_rfl) (fun _ _ _ h => h) (Or.inl ⟨by rfl, fun W hSw => ?_⟩) (by assumption) ?_
        · have hcw := (hSw.cell (p := ⟨Wk, 1, none⟩) HKq.out.lt).trans (HKq.out.cell (k := 1) rfl)
          go_simp
        simp only [Act.put, List.setIfInBounds_toArray, List.set_cons_zero, List.set_cons_succ]
        refine wpAnyH_ready (rs := [8, 12]) (by kernel_rfl) (by simp) ?_
        refine AllReadyH.cons (by simp only [List.getElem?_toArray, List.getElem?_cons_zero, List.getElem?_cons_succ]; rfl) (fun K hK => ?_) (AllReadyH.cons (by simp only [List.getElem?_toArray, List.getElem?_cons_zero, List.getElem?_cons_succ]; rfl) (fun K hK => ?_) AllReadyH.nil)
        · rw [if_pos (by rfl)]
          go_simp
          go_at_call 101
          refine (HFq.out _ hB0).mono ?_
          rintro e w5 ⟨rfl, hb5⟩
          dsimp only
          have hB5 := hB0.trans (hb5.mono hB0.size)
          refine hK.out _ _ hB5 (fun _ => ?_)
          clear hK K
          refine wpAnyH_take (i := 9) (v := .tuple #[.agg #[.int .i64 (o.getD Sq.zero).lit, .int .i64 (o.getD Sq.zero).len, .int .i64 (o.getD Sq.zero).off], .bool o.isSome]) (by simp only [List.getElem?_toArray, List.getElem?_cons_zero, List.getElem?_cons_succ]; rfl) (by kernel_rfl) (by kernel_rfl) (by kernel_rfl) (fun _ _ _ h => h) (Or.inl ⟨by rfl, fun W hSw => ?_⟩) (by assumption) ?_
          · clear hSw
            go_simp
          simp only [Act.put, List.setIfInBounds_toArray, List.set_cons_zero, List.set_cons_succ]
          refine wpAnyH_take (i := 10) (v := .agg #[.int .i64 (o.getD Sq.zero).lit, .int .i64 (o.getD Sq.zero).len, .int .i64 (o.getD Sq.zero).off]) (by simp only [List.getElem?_toArray, List.getElem?_cons_zero, List.getElem?_cons_succ]; rfl) (by kernel_rfl) (by kernel_rfl) (by kernel_rfl) (fun _ _ _ h => h) (Or.inl ⟨by rfl, fun W hSw => ?_⟩) (by assumption) ?_
          · clear hSw
            go_simp
          simp only [Act.put, List.setIfInBounds_toArray, List.set_cons_zero, List.set_cons_succ]
          refine wpAnyH_take (i := 11) (v := .bool o.isSome) (by simp only [List.getElem?_toArray, List.getElem?_cons_zero, List.getElem?_cons_succ]; rfl) (by kernel_rfl) (by kernel_rfl) (by kernel_rfl) (fun _ _ _ h => h) (Or.inl ⟨by rfl, fun W hSw => ?_⟩) (by assumption) ?_
          · clear hSw
            go_simp
          simp only [Act.put, List.setIfInBounds_toArray, List.set_cons_zero, List.set_cons_succ]
          refine wpAnyH_ready (rs := [12]) (by kernel_rfl) (by simp) ?_
          refine AllReadyH.cons (by simp only [List.getElem?_toArray, List.getElem?_cons_zero, List.getElem?_cons_succ]; rfl) (fun K hK => ?_) AllReadyH.nil
          rw [if_pos (by rfl)]
          go_simp
          have hB6 := hB5.alloc hB5.size (.cells #[.int .i64 0, .int .i64 0, .int .i64 0] 43)
          refine hK.out _ _ hB6 (fun _ => ?_)
          clear hK K
          have hy := Blk.new w5 [.int .i64 (o.getD Sq.zero).lit, .int .i64 (o.getD Sq.zero).len, .int .i64 (o.getD Sq.zero).off] 43
          have hB7 := hB5.alloc hB5.size (.cells #[.int .i64 (o.getD Sq.zero).lit, .int .i64 (o.getD Sq.zero).len, .int .i64 (o.getD Sq.zero).off] 43)
          refine wpAnyH_ready (rs := [13]) (by kernel_rfl) (by simp) ?_
          refine AllReadyH.cons (by simp only [List.getElem?_toArray, List.getElem?_cons_zero, List.getElem?_cons_succ]; rfl) (fun K hK => ?_) AllReadyH.nil
          rw [if_pos (by rfl)]
          go_simp
          refine hK.out _ _ hB7 (fun _ => ?_)
          clear hK K
          refine wpAnyH_ready (rs := [14]) (by kernel_rfl) (by simp) ?_
          refine AllReadyH.cons (by simp only [List.getElem?_toArray, List.getElem?_cons_zero, List.getElem?_cons_succ]; rfl) (fun K hK => ?_) AllReadyH.nil
          rw [if_pos (by rfl)]
          go_simp
          refine hK.out _ _ hB7 (fun _ => ?_)
          clear hK K
          refine wpAnyH_done (by kernel_rfl) ?_ _
          refine NoPanic.normal ?_
          go_wp2
          go_meet
          exact ⟨w5.heap.size, rfl, rfl, hB5.size, hy, hB7⟩
        · rw [if_pos (by rfl)]
          go_simp
          have hB6 := hB0.alloc hB0.size (.cells #[.int .i64 0, .int .i64 0, .int .i64 0] 43)
          refine hK.out _ _ hB6 (fun _ => ?_)
          clear hK K
          have hy0 := Blk.new W1 [.int .i64 0, .int .i64 0, .int .i64 0] 43
          generalize hg6 : W1.alloc (.cells #[.int .i64 0, .int .i64 0, .int .i64 0] 43) = w6 at *
          refine wpAnyH_ready (rs := [8]) (by kernel_rfl) (by simp) ?_
          refine AllReadyH.cons (by simp only [List.getElem?_toArray, List.getElem?_cons_zero, List.getElem?_cons_succ]; rfl) (fun K hK => ?_) AllReadyH.nil
          rw [if_pos (by rfl)]
          go_simp
          go_at_call 101
          refine (HFq.out _ hB6).mono ?_
          rintro e w5 ⟨rfl, hb5⟩
          dsimp only
          have hB5 := hB6.trans (hb5.mono hB6.size)
          refine hK.out _ _ hB5 (fun _ => ?_)
          clear hK K
          have hy5 := hy0.below hb5 hy0.lt
          refine wpAnyH_take (i := 9) (v := .tuple #[.agg #[.int .i64 (o.getD Sq.zero).lit, .int .i64 (o.getD Sq.zero).len, .int .i64 (o.getD Sq.zero).off], .bool o.isSome]) (by simp only [List.getElem?_toArray, List.getElem?_cons_zero, List.getElem?_cons_succ]; rfl) (by kernel_rfl) (by kernel_rfl) (by kernel_rfl) (fun _ _ _ h => h) (Or.inl ⟨by rfl, fun W hSw => ?_⟩) (by assumption) ?_
          · clear hSw
            go_simp
          simp only [Act.put, List.setIfInBounds_toArray, List.set_cons_zero, List.set_cons_succ]
          refine wpAnyH_take (i := 10) (v := .agg #[.int .i64 (o.getD Sq.zero).lit, .int .i64 (o.getD Sq.zero).len, .int .i64 (o.getD Sq.zero).off]) (by simp only [List.getElem?_toArray, List.getElem?_cons_zero, List.getElem?_cons_succ]; rfl) (by kernel_rfl) (by kernel_rfl) (by kernel_rfl) (fun _ _ _ h => h) (Or.inl ⟨by rfl, fun W hSw => ?_⟩) (by assumption) ?_
          · clear hSw
            go_simp
          simp only [Act.put, List.setIfInBounds_toArray, List.set_cons_zero, List.set_cons_succ]
          refine wpAnyH_take (i := 11) (v := .bool o.isSome) (by simp only [List.getElem?_toArray, List.getElem?_cons_zero, List.getElem?_cons_succ]; rfl) (by kernel_rfl) (by kernel_rfl) (by kernel_rfl) (fun _ _ _ h => h) (Or.inl ⟨by rfl, fun W hSw => ?_⟩) (by assumption) ?_
          · clear hSw
            go_simp
          simp only [Act.put, List.setIfInBounds_toArray, List.set_cons_zero, List.set_cons_succ]
          have z0 := hy5.frozen 0
          have z1 := hy5.frozen 1
          have z2 := hy5.frozen 2
          have p0 := hy5.cell (k := 0) rfl
          have p1 := hy5.cell (k := 1) rfl
          have p2 := hy5.cell (k := 2) rfl
          have hs1 := hB0.size
          have hy := ((hy5.set 0 (.int .i64 (o.getD Sq.zero).lit)).set 1 (.int .i64 (o.getD Sq.zero).len)).set 2 (.int .i64 (o.getD Sq.zero).off)
          have hB7 := ((hB5.setCell (p := ⟨W1.heap.size, 0, none⟩) hs1 (.int .i64 (o.getD Sq.zero).lit)).setCell (p := ⟨W1.heap.size, 1, none⟩) hs1 (.int .i64 (o.getD Sq.zero).len)).setCell (p := ⟨W1.heap.size, 2, none⟩) hs1 (.int .i64 (o.getD Sq.zero).off)
          refine wpAnyH_ready (rs := [13]) (by kernel_rfl) (by simp) ?_
          refine AllReadyH.cons (by simp only [List.getElem?_toArray, List.getElem?_cons_zero, List.getElem?_cons_succ]; rfl) (fun K hK => ?_) AllReadyH.nil
          rw [if_pos (by rfl)]
          go_simp
          refine hK.out _ _ hB7 (fun _ => ?_)
          clear hK K
          refine wpAnyH_ready (rs := [14]) (by kernel_rfl) (by simp) ?_
          refine AllReadyH.cons (by simp only [List.getElem?_toArray, List.getElem?_cons_zero, List.getElem?_cons_succ]; rfl) (fun K hK => ?_) AllReadyH.nil
          rw [if_pos (by rfl)]
          go_simp
          refine hK.out _ _ hB7 (fun _ => ?_)
          clear hK K
          refine wpAnyH_done (by kernel_rfl) ?_ _
          refine NoPanic.normal ?_
          go_wp2
          go_meet
          exact ⟨W1.heap.size, rfl, rfl, hs1, hy, hB7⟩
      case rest =>
        obtain ⟨B, rfl, rfl, hWB, hy, hbx⟩ := hcut
        have HKc := hid (HKq.out.below hbx HKq.out.lt)
        have HRc := hid (HRq.out.below hbx HRq.out.lt)
        have HGc := hid (grown_below HGq.out hbx)
        have HBc := hid (HBq.out.trans (hbx.mono HBq.out.size))
        have hkW := HKq.out.lt
        have hrW := HRq.out.lt
        clear hbx HKq HRq HGq HBq
        cases o with
        | none =>
          have hgo : lazyA find far q = .go (q + 1) := lazyA_none HO.out
          have HN := hid (show scanS (lazyA find far) size (q + 1) = S0 ∧ p ≤ q + 1 from ⟨by rw [← HI.out.1, scanS_go HOk.out hq hgo], by have := HI.out.2; omega⟩)
          have hsz := HSz.out
          have hpf := HFP.out
          have hpq := HI.out.2
          have hw1 : IntKind.i64.wrap (q + 1) = q + 1 := by rw [IntKind.wrap_i64]; omega
          dsimp only [Option.isSome]
          clear hgo hy hsz hpf hpq
          have k1 := HKc.out.cell (k := 1) rfl
          have z1 := HKc.out.frozen 1
          have hne : Wk ≠ w.heap.size := by omega
          have HK9 := hid (HKc.out.set 1 (.int .i64 (q + 1)))
          have HR9 := hid (HRc.out.other (a := ⟨Wk, 1, none⟩) (.int .i64 (q + 1)) hne)
          have HG9 := hid (grown_set HGc.out ⟨Wk, 1, none⟩ (.int .i64 (q + 1)) (.inl rfl))
          have HB9 := hid (HBc.out.setCell (p := ⟨Wk, 1, none⟩) hWk (.int .i64 (q + 1)))
          clear HKc HRc HGc HBc
          go_wp2
          go_roundg (size - (q + 1)).toNat
          case measure => omega
          case rel => exact ⟨q + 1, HN, rfl, HK9.out, HR9.out, HG9.out, HB9.out⟩
        | some s =>
          have hfm := HFm.out q s HO.out
          obtain ⟨lit, len, off⟩ := s
          dsimp only [Option.isSome, Option.getD, sqc] at hy hfm ⊢
          obtain ⟨rfl, hm1, hm2, hm3, hm4, hm5, hm6⟩ := hfm
          have y1 := hy.cell (k := 1) rfl
          have HY := hid hy
          have hsz0 := HSz.out
          have hpq0 := HI.out.2
          have hpf0 := HFP.out
          have HLc := hid (HLg.out wc HBc.out q len HKc.out (by omega) (by omega))
          clear hsz0 hpq0 hpf0
          cases hlo : longerS find q len far with
          | some r =>
            have hgo : lazyA find far q = .go r := lazyA_go HO.out hlo
            have hqr := (HOk.out q).1 r hgo
            have HN := hid (show scanS (lazyA find far) size r = S0 ∧ p ≤ r from ⟨by rw [← HI.out.1, scanS_go HOk.out hq hgo], by have := HI.out.2; omega⟩)
            rw [hlo] at HLc
            unfold longR at HLc
            dsimp only [Option.isSome, Option.getD] at HLc
            have HQr := hid hqr
            clear hgo hy hqr hlo
            go_wp2_with fail
            refine HLc.out.mono ?_
            rintro e w5 ⟨rfl, hb5⟩
            clear y1
            have hKw := HKc.out.below hb5 HKc.out.lt
            have hRw := HRc.out.below hb5 HRc.out.lt
            have hGw := grown_below HGc.out hb5
            have hBw := HBc.out.trans (hb5.mono HBc.out.size)
            have k1 := hKw.cell (k := 1) rfl
            have z1 := hKw.frozen 1
            have hne : Wk ≠ w.heap.size := by omega
            have HK9 := hid (hKw.set 1 (.int .i64 r))
            have HR9 := hid (hRw.other (a := ⟨Wk, 1, none⟩) (.int .i64 r) hne)
            have HG9 := hid (grown_set hGw ⟨Wk, 1, none⟩ (.int .i64 r) (.inl rfl))
            have HB9 := hid (hBw.setCell (p := ⟨Wk, 1, none⟩) hWk (.int .i64 r))
            clear hKw hRw hGw hBw hb5 HKc HRc HGc HBc HLc
            go_wp2
            go_roundg (size - r).toNat
            case measure => have := HQr.out; omega
            case rel => exact ⟨r, HN, rfl, HK9.out, HR9.out, HG9.out, HB9.out⟩
          | none =>
            have hgo : lazyA find far q = .take ⟨0, len, off⟩ := lazyA_take HO.out hlo
            rw [hlo] at HLc
            unfold longR at HLc
            dsimp only [Option.isSome, Option.getD] at HLc
            have hS : S0 = some (q, ⟨0, len, off⟩) := by rw [← HI.out.1, scanS_take hq hgo]
            subst hS
            have hpf := HFP.out
            have hpq := HI.out.2
            have hsz := HSz.out
            have hw3 : IntKind.i64.wrap (q - frm) = q - frm := by rw [IntKind.wrap_i64]; omega
            have hw4 : IntKind.i64.wrap (q + len) = q + len := by rw [IntKind.wrap_i64]; omega
            have hWkB : Wk ≠ B := by omega
            have hRB : w.heap.size ≠ B := by omega
            have hRK : Wk ≠ w.heap.size := by omega
            clear hgo hy hsz hpf hpq hm1 hm2 hm3 hm4 hm5 hm6 hlo
            go_wp2_with fail
            refine HLc.out.mono ?_
            rintro e W5 ⟨rfl, hb5⟩
            clear y1
            have hYw := HY.out.below hb5 HY.out.lt
            have hKw := HKc.out.below hb5 HKc.out.lt
            have hRw := HRc.out.below hb5 HRc.out.lt
            have hGw := grown_below HGc.out hb5
            clear hb5 HLc
            have k1 := hKw.cell (k := 1) rfl
            have k2 := hKw.cell (k := 2) rfl
            have y0 := hYw.cell (k := 0) rfl
            have yz0 := hYw.frozen 0
            have HYw := hid (hYw.set 0 (.int .i64 (q - frm)))
            have HKw := hid (hKw.other (a := ⟨B, 0, none⟩) (.int .i64 (q - frm)) (Ne.symm hWkB))
            have HRw := hid (hRw.other (a := ⟨B, 0, none⟩) (.int .i64 (q - frm)) (Ne.symm hRB))
            have HGw := hid (grown_set hGw ⟨B, 0, none⟩ (.int .i64 (q - frm)) (.inr (show w.heap.size ≤ B by omega)))
            clear hYw hKw hRw hGw HY HKc HRc HGc HBc
            go_wp2_with fail
            go_region
            clear k1 k2 y0 yz0
            have hYw : Blk (W5.setCell ⟨B, 0, none⟩ (.int .i64 (q - frm))).drew B [.int .i64 (q - frm), .int .i64 len, .int .i64 off] 43 := HYw.out
            have hKw : Blk (W5.setCell ⟨B, 0, none⟩ (.int .i64 (q - frm))).drew Wk [.pointer (some ⟨F, 0, none⟩), .int .i64 q, .int .i64 frm, .int .i64 (far : Int)] 151 := HKw.out
            have hRw : Blk (W5.setCell ⟨B, 0, none⟩ (.int .i64 (q - frm))).drew w.heap.size [.int .i64 0, .int .i64 0, .int .i64 0, .int .i64 0] 119 := HRw.out
            have hGw := grown_below HGw.out (Below.refl _ _).drew
            generalize (W5.setCell ⟨B, 0, none⟩ (.int .i64 (q - frm))).drew = W6 at *
            have k1 := hKw.cell (k := 1) rfl
            have y0 := hYw.cell (k := 0) rfl
            have y1 := hYw.cell (k := 1) rfl
            have y2 := hYw.cell (k := 2) rfl
            have hyl := hYw.lt
            have hkl := hKw.lt
            have HY6 := hid hYw
            have HK6 := hid hKw
            have HR6 := hid hRw
            have HG6 := hid hGw
            clear hYw hKw hRw hGw HYw HKw HRw HGw
            go_wp2_with fail
            go_region
            clear k1 y0 y1 y2
            have hYw : Blk (W6.alloc (.cells #[.int .i64 q, .int .i64 (q - frm), .int .i64 len, .int .i64 off] 119)).drew B [.int .i64 (q - frm), .int .i64 len, .int .i64 off] 43 := HY6.out.alloc _
            have hKw : Blk (W6.alloc (.cells #[.int .i64 q, .int .i64 (q - frm), .int .i64 len, .int .i64 off] 119)).drew Wk [.pointer (some ⟨F, 0, none⟩), .int .i64 q, .int .i64 frm, .int .i64 (far : Int)] 151 := HK6.out.alloc _
            have hRw : Blk (W6.alloc (.cells #[.int .i64 q, .int .i64 (q - frm), .int .i64 len, .int .i64 off] 119)).drew w.heap.size [.int .i64 0, .int .i64 0, .int .i64 0, .int .i64 0] 119 := HR6.out.alloc _
            have hXw : Blk (W6.alloc (.cells #[.int .i64 q, .int .i64 (q - frm), .int .i64 len, .int .i64 off] 119)).drew W6.heap.size [.int .i64 q, .int .i64 (q - frm), .int .i64 len, .int .i64 off] 119 := Blk.new _ _ _
            have hGw := grown_below HG6.out (below_new W6 (.cells #[.int .i64 q, .int .i64 (q - frm), .int .i64 len, .int .i64 off] 119)).drew
            have hX1 := HK6.out.lt
            have hX2 := HR6.out.lt
            generalize (W6.alloc (.cells #[.int .i64 q, .int .i64 (q - frm), .int .i64 len, .int .i64 off] 119)).drew = W7 at *
            generalize W6.heap.size = G at *
            have hne1 : Wk ≠ G := by omega
            have hne2 : w.heap.size ≠ G := by omega
            have k1 := hKw.cell (k := 1) rfl
            have kz1 := hKw.frozen 1
            have y1 := hYw.cell (k := 1) rfl
            have hK8 := hKw.set 1 (.int .i64 (q + len))
            have hR8 := hRw.other (a := ⟨Wk, 1, none⟩) (.int .i64 (q + len)) hRK
            have hX8 := hXw.other (a := ⟨Wk, 1, none⟩) (.int .i64 (q + len)) hne1
            have hG8 := grown_set hGw ⟨Wk, 1, none⟩ (.int .i64 (q + len)) (.inl rfl)
            have HK8 := hid hK8
            have HR8 := hid hR8
            have HX8 := hid hX8
            have HG8 := hid hG8
            clear hYw hKw hRw hXw hGw HY6 HK6 HR6 HG6 hX1 hX2 hK8 hR8 hX8 hG8 hyl hkl
            go_wp2_with fail
            go_region
            clear k1 kz1 y1
            have hK9 : Blk (W7.setCell ⟨Wk, 1, none⟩ (.int .i64 (q + len))).drew Wk [.pointer (some ⟨F, 0, none⟩), .int .i64 (q + len), .int .i64 frm, .int .i64 (far : Int)] 151 := HK8.out
            have hR9 : Blk (W7.setCell ⟨Wk, 1, none⟩ (.int .i64 (q + len))).drew w.heap.size [.int .i64 0, .int .i64 0, .int .i64 0, .int .i64 0] 119 := HR8.out
            have hX9 : Blk (W7.setCell ⟨Wk, 1, none⟩ (.int .i64 (q + len))).drew G [.int .i64 q, .int .i64 (q - frm), .int .i64 len, .int .i64 off] 119 := HX8.out
            have hG9 := grown_below HG8.out (Below.refl _ _).drew
            generalize (W7.setCell ⟨Wk, 1, none⟩ (.int .i64 (q + len))).drew = W9 at *
            have k1 := hK9.cell (k := 1) rfl
            have k2 := hK9.cell (k := 2) rfl
            have kz2 := hK9.frozen 2
            have HKa := hid (hK9.set 2 (.int .i64 (q + len)))
            have hRa := hR9.other (a := ⟨Wk, 2, none⟩) (.int .i64 (q + len)) hRK
            have hXa := hX9.other (a := ⟨Wk, 2, none⟩) (.int .i64 (q + len)) hne1
            have hGa := grown_set hG9 ⟨Wk, 2, none⟩ (.int .i64 (q + len)) (.inl rfl)
            have HRa := hid hRa
            have HXa := hid hXa
            have HGa := hid hGa
            clear hK9 hR9 hX9 hG9 HK8 HR8 HX8 HG8 hRa hXa hGa
            go_upto_region 12 with fail
            clear k1 k2 kz2
            have hKb := HKa.out
            have hRb := HRa.out
            have hXb := HXa.out
            have hGb := HGa.out
            generalize W9.setCell ⟨Wk, 2, none⟩ (.int .i64 (q + len)) = Wa at *
            have x0 := hXb.cell (k := 0) rfl
            have x1 := hXb.cell (k := 1) rfl
            have x2 := hXb.cell (k := 2) rfl
            have x3 := hXb.cell (k := 3) rfl
            have z0 := hRb.frozen 0
            have z1 := hRb.frozen 1
            have z2 := hRb.frozen 2
            have z3 := hRb.frozen 3
            have p0 := hRb.cell (k := 0) rfl
            have p1 := hRb.cell (k := 1) rfl
            have p2 := hRb.cell (k := 2) rfl
            have p3 := hRb.cell (k := 3) rfl
            have hne := Ne.symm hRK
            have HR9 := hid ((((hRb.set 0 (.int .i64 q)).set 1 (.int .i64 (q - frm))).set 2 (.int .i64 len)).set 3 (.int .i64 off))
            have HG9 := hid (grown_set (grown_set (grown_set (grown_set hGb ⟨w.heap.size, 0, none⟩ (.int .i64 q) (.inr (Nat.le_refl _))) ⟨w.heap.size, 1, none⟩ (.int .i64 (q - frm)) (.inr (Nat.le_refl _))) ⟨w.heap.size, 2, none⟩ (.int .i64 len) (.inr (Nat.le_refl _))) ⟨w.heap.size, 3, none⟩ (.int .i64 off) (.inr (Nat.le_refl _)))
            have HK9 := hid ((((hKb.other (a := ⟨w.heap.size, 0, none⟩) (.int .i64 q) hne).other (a := ⟨w.heap.size, 1, none⟩) (.int .i64 (q - frm)) hne).other (a := ⟨w.heap.size, 2, none⟩) (.int .i64 len) hne).other (a := ⟨w.heap.size, 3, none⟩) (.int .i64 off) hne)
            clear hKb hRb hXb hGb HKa HRa HXa HGa
            go_wp2
            have r0 := HR9.out.cell (k := 0) rfl
            have r1 := HR9.out.cell (k := 1) rfl
            have r2 := HR9.out.cell (k := 2) rfl
            have r3 := HR9.out.cell (k := 3) rfl
            refine bodyPost_ret (v := .tuple #[.agg #[.int .i64 q, .int .i64 (q - frm), .int .i64 len, .int .i64 off], .bool true]) (by simp [results, Tryz.results81, go_sem, r0, r1, r2, r3]) rfl ?_
            exact ⟨⟨rfl, HK9.out⟩, HG9.out⟩
    · have hSn : S0 = none := by rw [← HI.out.1, scanS_end _ (by omega)]
      go_wp2_with fail
      go_quiet ((go_at_call 79; first | exact quiet_left3 (HLe.out _ (below_drewN HBr.out _)) | exact quiet_left0 (HLe.out _ (below_drewN HBr.out _))))
      have hRq : Blk (wr.drewN nq) w.heap.size [.int .i64 0, .int .i64 0, .int .i64 0, .int .i64 0] 119 := HRr.out
      have hGq := grown_below HGr.out (below_drewN (Below.refl wr.heap.size wr) nq)
      have hKq : Blk (wr.drewN nq) Wk [.pointer (some ⟨F, 0, none⟩), .int .i64 q, .int .i64 frm, .int .i64 (far : Int)] 151 := HKr.out
      generalize wr.drewN nq = W0 at *
      have z0 := hRq.frozen 0
      have z1 := hRq.frozen 1
      have z2 := hRq.frozen 2
      have z3 := hRq.frozen 3
      have p0 := hRq.cell (k := 0) rfl
      have p1 := hRq.cell (k := 1) rfl
      have p2 := hRq.cell (k := 2) rfl
      have p3 := hRq.cell (k := 3) rfl
      have hne : w.heap.size ≠ Wk := by omega
      have HR9 := hid ((((hRq.set 0 (.int .i64 0)).set 1 (.int .i64 0)).set 2 (.int .i64 0)).set 3 (.int .i64 0))
      have HG9 := hid (grown_set (grown_set (grown_set (grown_set hGq ⟨w.heap.size, 0, none⟩ (.int .i64 0) (.inr (Nat.le_refl _))) ⟨w.heap.size, 1, none⟩ (.int .i64 0) (.inr (Nat.le_refl _))) ⟨w.heap.size, 2, none⟩ (.int .i64 0) (.inr (Nat.le_refl _))) ⟨w.heap.size, 3, none⟩ (.int .i64 0) (.inr (Nat.le_refl _)))
      have HK9 := hid ((((hKq.other (a := ⟨w.heap.size, 0, none⟩) (.int .i64 0) hne).other (a := ⟨w.heap.size, 1, none⟩) (.int .i64 0) hne).other (a := ⟨w.heap.size, 2, none⟩) (.int .i64 0) hne).other (a := ⟨w.heap.size, 3, none⟩) (.int .i64 0) hne)
      clear hRq hGq hKq HKr HRr HGr HBr k0 k1
      subst hSn
      go_wp2
      have r0 := HR9.out.cell (k := 0) rfl
      have r1 := HR9.out.cell (k := 1) rfl
      have r2 := HR9.out.cell (k := 2) rfl
      have r3 := HR9.out.cell (k := 3) rfl
      refine bodyPost_ret (v := .tuple #[.agg #[.int .i64 0, .int .i64 0, .int .i64 0, .int .i64 0], .bool false]) (by simp [results, Tryz.results81, go_sem, r0, r1, r2, r3]) rfl ?_
      exact ⟨⟨rfl, q, HK9.out⟩, HG9.out⟩
end Go.Proofs.YtlgablepckmogaaGreat
namespace Go.Port
open Go.RowKit
def lazyE (far : Int) : Int := if far < 0 ∨ 8 < far then 2 else 0
/-- The lazy plan, with the positions of its matches. -/
def lazyP (bs : List UInt8) (A : Nat) (W D : Int) (far : Nat) : List (Int × Sq) := planS (lazyA (findS bs A W D) far) ((bs.length : Int) - A) 0 0
def lazyL (bs : List UInt8) (A : Nat) (W D far : Int) : List (Int × Sq) := if lazyE far = 0 then lazyP bs A W D far.toNat else []
theorem lazyP_length (bs : List UInt8) (A : Nat) (W D : Int) (far : Nat) : (lazyP bs A W D far).length ≤ bs.length := by
  have := planS_length (lazy_ok (B := bs) (A := A) (W := W) (D := D) (far := far)) ((bs.length : Int) - A) ((bs.length : Int) - A).toNat 0 0 (by omega)
  unfold lazyP
  omega
theorem lazyL_length (bs : List UInt8) (A : Nat) (W D far : Int) : (lazyL bs A W D far).length ≤ bs.length := by
  unfold lazyL
  split
  · exact lazyP_length _ _ _ _ _
  · simp
end Go.Port
namespace Go.Proofs.YtlgablepckmogaaGreat
open Go.RowKit Go.Port
/-- Next, in the words of what is left. -/
theorem lznext_left (bs : List UInt8) (A : Nat) (W D : Int) (F Wk : Nat) (p : Int) (far : Nat) (w0 w : World) (h : FdAt 50 79 bs A W D F w0) (hb0 : Below w0.heap.size w0 w) (hWk : w0.heap.size ≤ Wk)
    (hk : Blk w Wk [.pointer (some ⟨F, 0, none⟩), .int .i64 p, .int .i64 p, .int .i64 (far : Int)] 151) (hp : 0 ≤ p) (hfar : far ≤ 8) :
    Calls Tryz.prog 81 #[.pointer (some ⟨Wk, 0, none⟩)] w fun e w' => ∃ (x : Int × Sq) (ok : Bool) (p' : Int), e = .returned (.tuple #[stv x, .bool ok]) ∧ w.grownBy w' (some Wk) ∧
      Hid ((ok = false ∧ planS (lazyA (findS bs A W D) far) ((bs.length : Int) - A) p p = []) ∨ (ok = true ∧ 0 ≤ p' ∧ planS (lazyA (findS bs A W D) far) ((bs.length : Int) - A) p p = x :: planS (lazyA (findS bs A W D) far) ((bs.length : Int) - A) p' p' ∧ Blk w' Wk [.pointer (some ⟨F, 0, none⟩), .int .i64 p', .int .i64 p', .int .i64 (far : Int)] 151)) := by
  refine (lznext_any bs A W D F Wk p p far w0 w h hb0 hWk hk hp (Int.le_refl _) hfar).mono ?_
  rintro e w' ⟨h1, h2⟩
  have hs := planS_scan (lazy_ok (B := bs) (A := A) (W := W) (D := D) (far := far)) ((bs.length : Int) - A) ((bs.length : Int) - A - p).toNat p p (by omega)
  cases ho : scanS (lazyA (findS bs A W D) far) ((bs.length : Int) - A) p with
  | none =>
    rw [ho] at h1 hs
    exact ⟨_, _, 0, h1.1, h2, hid (.inl ⟨rfl, hs⟩)⟩
  | some y =>
    obtain ⟨q, s⟩ := y
    rw [ho] at h1 hs
    have h3 := scanS_some (lazy_ok (B := bs) (A := A) (W := W) (D := D) (far := far)) ((bs.length : Int) - A - p).toNat (by omega) ho
    have h4 := ((lazy_ok (B := bs) (A := A) (W := W) (D := D) (far := far)) q).2 s h3.2.2
    exact ⟨_, _, q + s.len, h1.1, h2, hid (.inr ⟨rfl, by omega, hs, h1.2⟩)⟩
set_option maxRecDepth 100000 in
set_option maxHeartbeats 8000000 in
theorem lzsteps_ok (bs : List UInt8) (A : Nat) (W D : Int) (F : Nat) (far : Nat) (w : World) (h : FdAt 50 79 bs A W D F w) (hfar : far ≤ 8) :
    Calls Tryz.prog 56 #[.pointer (some ⟨F, 0, none⟩), .int .i64 (far : Int)] w fun e w' => ∃ v, e = .returned (.tuple #[v, .int .i64 0]) ∧ w'.ownsRow w.heap.size 119 4 v (lazyP bs A W D far).length ((lazyP bs A W D far).flatMap stc) ∧ Below w.heap.size w w' := by
  have HNx := hid (fun W' (hW' : Below w.heap.size w W') q (hq : 0 ≤ q) hk' => lznext_left bs A W D F w.heap.size q far w W' h hW' (Nat.le_refl _) hk' hq hfar)
  have hlen := lazyP_length bs A W D far
  have hn := h.hn
  have hlen2 : (lazyP bs A W D far).length ≤ 1000000 := by omega
  have HDe := hid (cdepth_any bs A W D F w h)
  have hD := h.hD.1
  have hDn : ¬ D = 0 := by omega
  have hDb : (D == 0) = false := beq_eq_false_iff_ne.2 hDn
  unfold lazyP at hlen2 ⊢
  generalize (bs.length : Int) - (A : Int) = size at *
  generalize findS bs A W D = find at *
  obtain ⟨L, hL⟩ : ∃ L, planS (lazyA find far) size 0 0 = L := ⟨_, rfl⟩
  rw [hL] at hlen2 ⊢
  have HL := hid hL
  have HLn := hid hlen2
  have hWk : w.heap.size ≤ w.heap.size := Nat.le_refl _
  have hkz := Blk.new w [.pointer (some ⟨F, 0, none⟩), .int .i64 0, .int .i64 0, .int .i64 (far : Int)] 151
  have HK := hid hkz
  have HB := hid (below_new w (.cells #[.pointer (some ⟨F, 0, none⟩), .int .i64 0, .int .i64 0, .int .i64 (far : Int)] 151))
  have hklt := hkz.lt
  have HZs := hid HB.out.size
  have hf1 : ¬ (far : Int) < 0 := by omega
  have hf2 : ¬ 8 < (far : Int) := by omega
  clear h hlen hlen2 hn hL hkz hD
  unfold stv at HNx
  go_enter Tryz.func56, Tryz.ntmps56
  go_wp2_with fail
  refine wp_scope_straight ?_
  go_wp2_with fail
  refine HDe.out.mono ?_
  rintro e w' ⟨rfl, rfl⟩
  clear HDe
  go_upto_region 7 with fail
  clear hf1 hf2
  generalize w.alloc (.cells #[.pointer (some ⟨F, 0, none⟩), .int .i64 0, .int .i64 0, .int .i64 (far : Int)] 151) = wz at *
  go_wp2_with fail
  refine (HNx.out wz HB.out 0 (Int.le_refl _) HK.out).mono ?_
  rintro e w1 ⟨⟨xa, xl, xn, xo⟩, ok, p1, rfl, hg1, H1⟩
  dsimp only
  have HG1 := hid (grown_below hg1 (below_new w1 (.cells #[.int .i64 xa, .int .i64 xl, .int .i64 xn, .int .i64 xo] 119)))
  have HX1 := hid (Blk.new w1 [.int .i64 xa, .int .i64 xl, .int .i64 xn, .int .i64 xo] 119)
  have HB1 := hid ((HB.out.grown hg1 HB.out.size (fun k e => by cases e; exact hWk)).alloc (Nat.le_trans HB.out.size hg1.size) (.cells #[.int .i64 xa, .int .i64 xl, .int .i64 xn, .int .i64 xo] 119))
  have hs1 := hg1.size
  obtain ⟨rest0, h2, h3, rfl, h5, h6⟩ := left_of (K := fun q => Blk w1 w.heap.size [.pointer (some ⟨F, 0, none⟩), .int .i64 q, .int .i64 q, .int .i64 (far : Int)] 151) H1.out
  have HK1 := hid (And.intro (HL.out.symm.trans h2) (And.intro h3 h5))
  have HW1 := hid (show WkAt (w1.alloc (.cells #[.int .i64 xa, .int .i64 xl, .int .i64 xn, .int .i64 xo] 119)) w.heap.size F (far : Int) 151 rest0 p1 from fun e => (h6 e).alloc _)
  clear h2 h3 h5 h6
  clear hg1 H1
  go_wp2
  generalize w1.heap.size = B1 at *
  generalize w1.alloc (.cells #[.int .i64 xa, .int .i64 xl, .int .i64 xn, .int .i64 xo] 119) = w2 at *
  go_loopg [4, 7, 8] L.length (fun g v t3 t4 wr => ∃ (pre rest : List (Int × Sq)) (B : Nat) (x : Int × Sq) (p' : Int), Hid (L = pre ++ rest ∧ LeftAt (lazyA find far) size rest p' ∧ (∀ y r, rest = y :: r → y = x)) ∧ rest.length = g ∧ t3 = .pointer (some ⟨B, 0, none⟩) ∧ t4 = .bool (!rest.isEmpty) ∧ WkAt wr w.heap.size F (far : Int) 151 rest p' ∧ Blk wr B (stc x) 119 ∧ wz.heap.size ≤ B ∧ wr.ownsRow wz.heap.size 119 4 v pre.length (pre.flatMap stc) ∧ v.ownBlock ≠ some B ∧ wz.grownBy wr (some w.heap.size) ∧ Below w.heap.size w wr)
  case atStart =>
    have hl := congrArg List.length HK1.out.1
    exact ⟨[], rest0, B1, (xa, ⟨xl, xn, xo⟩), p1, hid HK1.out, hl.symm, rfl, rfl, HW1.out, HX1.out, hs1, World.ownsRow_nil _ _ _ _, (fun e => by cases e), HG1.out, HB1.out⟩
  case round =>
    obtain ⟨pre, rest, B, ⟨xa, xl, xn, xo⟩, p', HI, hgl, rfl, rfl, hwk, hx, hBs, hown, hne, hgr, hbr⟩ := hrel
    have HO := hid hown
    have HX := hid hx
    have HW := hid hwk
    have HG := hid hgr
    have HB := hid hbr
    have HNe := hid hne
    have HGl := hid hgl
    clear hgl
    cases rest with
    | nil =>
      have hE : L = pre := by rw [HI.out.1, List.append_nil]
      subst hE
      clear hown hx hwk hgr hbr hne
      have HF := hid (Nat.le_trans (Nat.le_refl _) HZs.out)
      go_wp2
      simp only [Exit.noGoto_ret]
      go_ret2
      exact ⟨_, rfl, own_le HO.out HF.out, HB.out⟩
    | cons y rest =>
      obtain rfl := HI.out.2.2 y rest rfl
      have hlf := HI.out.2.1 _ _ rfl
      have hL2 : L = (pre ++ [(xa, ⟨xl, xn, xo⟩)]) ++ rest := by rw [HI.out.1, List.append_assoc]; rfl
      have hpl : pre.length + 1 ≤ 1000000 := by
        have h1 := HLn.out
        rw [hL2] at h1
        simp only [List.length_append, List.length_cons, List.length_nil] at h1
        omega
      have HL2 := hid hL2
      have HPl := hid hpl
      have HLf := hid hlf
      have x0 := hx.cell (k := 0) rfl
      have x1 := hx.cell (k := 1) rfl
      have x2 := hx.cell (k := 2) rfl
      have x3 := hx.cell (k := 3) rfl
      have hgs : wz.heap.size ≤ wr.heap.size := hgr.size
      obtain ⟨av, cv, rfl⟩ := own_slice hown
      clear hown hx hwk hgr hbr hne hL2 hpl hlf
      simp only [List.isEmpty_cons, Bool.not_false]
      go_wp2_with (at_builtin; refine Hid.out ?_)
      refine hid ?_
      refine wpList_append1 rfl _ _ 115 rfl 119 _ 4 32 Tryz.underlying115 Tryz.info_step rfl (by decide) (by decide) _ wz.heap.size _ _ _ [.int .i64 xa, .int .i64 xl, .int .i64 xn, .int .i64 xo] rfl ?hu rfl rfl (by exact HO.out) ?hn hgs ?hk
      case hu => simp [Value.oneCell']
      case hn => have := HPl.out; omega
      case hk =>
        intro v' w3 hown' hg
        have hbg := below_grown HO.out hg hgs
        have hx3 := HX.out.grown hg (Ne.symm HNe.out)
        have hw3 := (HW.out (by simp)).grown hg (own_neT HO.out (HW.out (by simp)) (by decide))
        have hg3 : wz.grownBy w3 (some w.heap.size) := by
          have h1 := HG.out
          refine ⟨hbg.os.trans h1.os, hbg.tape.trans h1.tape, hbg.output.trans h1.output, Nat.le_trans h1.size hg.size, fun k hk hne => (hbg.block k hk).trans (h1.block k hk hne)⟩
        have hb3 := HB.out.trans (hbg.mono (by have := HB.out.size; omega))
        have x0 := hx3.cell (k := 0) rfl
        have x1 := hx3.cell (k := 1) rfl
        have x2 := hx3.cell (k := 2) rfl
        have x3 := hx3.cell (k := 3) rfl
        have hown3 : w3.ownsRow wz.heap.size 119 4 v' (pre ++ [((xa, ⟨xl, xn, xo⟩) : Int × Sq)]).length ((pre ++ [((xa, ⟨xl, xn, xo⟩) : Int × Sq)]).flatMap stc) := by
          rw [List.length_append, List.flatMap_append]
          exact hown'
        have hne3 : v'.ownBlock ≠ some w3.heap.size := fun e => Nat.lt_irrefl _ (hown'.lt _ e).2
        have hw4 := hw3.alloc (.cells #[.int .i64 xa, .int .i64 xl, .int .i64 xn, .int .i64 xo] 119)
        have hb4 := hb3.alloc hb3.size (.cells #[.int .i64 xa, .int .i64 xl, .int .i64 xn, .int .i64 xo] 119)
        have hg4 := grown_below hg3 (below_new w3 (.cells #[.int .i64 xa, .int .i64 xl, .int .i64 xn, .int .i64 xo] 119))
        have hx4 := Blk.new w3 [.int .i64 xa, .int .i64 xl, .int .i64 xn, .int .i64 xo] 119
        have ho4 := hown3.alloc (.cells #[.int .i64 xa, .int .i64 xl, .int .i64 xn, .int .i64 xo] 119)
        have hs3 := hg3.size
        have HW4 := hid hw4
        have HB4 := hid hb4
        have HG4 := hid hg4
        have HX4 := hid hx4
        have HO4 := hid ho4
        have HNe3 := hid hne3
        have HCall := hid (HNx.out _ hb4 p' HLf.out.1 hw4)
        clear hown' hg hbg hx3 hw3 hg3 hb3 hown3 hne3 hw4 hb4 hg4 hx4 ho4 HO HX HW HG HB
        go_wp2_with fail
        refine HCall.out.mono ?_
        rintro e w5 ⟨⟨ya, yl, yn, yo⟩, ok, p5, rfl, hg5, H5⟩
        dsimp only
        clear x0 x1 x2 x3
        obtain ⟨rest1, h2, h3, rfl, h5, h6⟩ := left_of (K := fun q => Blk w5 w.heap.size [.pointer (some ⟨F, 0, none⟩), .int .i64 q, .int .i64 q, .int .i64 (far : Int)] 151) H5.out
        have hr1 : rest = rest1 := HLf.out.2.trans h2
        subst hr1
        have hGk : w3.heap.size ≠ w.heap.size := by omega
        have hx5 := HX4.out.grown hg5 (fun e => hGk (Option.some.inj e))
        have ho5 := own_grownAt HO4.out hg5 hklt
        have hb5 := HB4.out.grown hg5 HB4.out.size (fun k e => by cases e; exact hWk)
        have hg6 : wz.grownBy w5 (some w.heap.size) := by
          have h1 := HG4.out
          exact ⟨hg5.os.trans h1.os, hg5.tape.trans h1.tape, hg5.output.trans h1.output, Nat.le_trans h1.size hg5.size, fun k hk hne => (hg5.block k (Nat.lt_of_lt_of_le hk h1.size) hne).trans (h1.block k hk hne)⟩
        generalize w3.heap.size = G at *
        have x0 := hx5.cell (k := 0) rfl
        have x1 := hx5.cell (k := 1) rfl
        have x2 := hx5.cell (k := 2) rfl
        have x3 := hx5.cell (k := 3) rfl
        have z0 := hx5.frozen 0
        have z1 := hx5.frozen 1
        have z2 := hx5.frozen 2
        have z3 := hx5.frozen 3
        have HX9 := hid ((((hx5.set 0 (.int .i64 ya)).set 1 (.int .i64 yl)).set 2 (.int .i64 yn)).set 3 (.int .i64 yo))
        have HG9 := hid (grown_set (grown_set (grown_set (grown_set hg6 ⟨G, 0, none⟩ (.int .i64 ya) (.inr hs3)) ⟨G, 1, none⟩ (.int .i64 yl) (.inr hs3)) ⟨G, 2, none⟩ (.int .i64 yn) (.inr hs3)) ⟨G, 3, none⟩ (.int .i64 yo) (.inr hs3))
        have hwG : w.heap.size ≤ G := by omega
        have HB9 := hid ((((hb5.setCell (p := ⟨G, 0, none⟩) hwG (.int .i64 ya)).setCell (p := ⟨G, 1, none⟩) hwG (.int .i64 yl)).setCell (p := ⟨G, 2, none⟩) hwG (.int .i64 yn)).setCell (p := ⟨G, 3, none⟩) hwG (.int .i64 yo))
        have HW9 := hid (fun e => ((((h6 e).other (a := ⟨G, 0, none⟩) (.int .i64 ya) hGk).other (a := ⟨G, 1, none⟩) (.int .i64 yl) hGk).other (a := ⟨G, 2, none⟩) (.int .i64 yn) hGk).other (a := ⟨G, 3, none⟩) (.int .i64 yo) hGk)
        have HO9 := hid (ownsRow_setCell_other (ownsRow_setCell_other (ownsRow_setCell_other (ownsRow_setCell_other ho5 (a := ⟨G, 0, none⟩) HNe3.out (.int .i64 ya)) (a := ⟨G, 1, none⟩) HNe3.out (.int .i64 yl)) (a := ⟨G, 2, none⟩) HNe3.out (.int .i64 yn)) (a := ⟨G, 3, none⟩) HNe3.out (.int .i64 yo))
        have HI5 := hid (And.intro HL2.out (And.intro h3 h5))
        clear hg5 H5 h2 h3 h5 h6 hx5 ho5 hb5 hg6 HX4 HO4 HB4 HG4 HW4 HNx HI HCall
        go_wp2
        go_roundg rest.length
        case measure => have := HGl.out; simp only [List.length_cons] at this; omega
        case rel => exact ⟨_, rest, G, (ya, ⟨yl, yn, yo⟩), p5, HI5, rfl, rfl, rfl, HW9.out, HX9.out, hs3, HO9.out, HNe3.out, HG9.out, HB9.out⟩
end Go.Proofs.YtlgablepckmogaaGreat
namespace Go.Port
open Go.RowKit
theorem lazyE_ok {far : Int} (h : lazyE far = 0) : ∃ k : Nat, far = (k : Int) ∧ k ≤ 8 := by
  unfold lazyE at h
  split at h
  · cases h
  · exact ⟨far.toNat, by omega, by omega⟩
theorem lazyE_nat {k : Nat} (h : k ≤ 8) : lazyE (k : Int) = 0 := by
  unfold lazyE
  rw [if_neg (by omega)]
theorem lazyE_bad {far : Int} (h : lazyE far ≠ 0) : lazyE far = 2 ∧ (far < 0 ∨ (0 ≤ far ∧ 8 < far)) := by
  unfold lazyE at h ⊢
  split at h
  · rename_i hc
    rw [if_pos hc]
    exact ⟨rfl, by omega⟩
  · exact absurd rfl h
theorem lazyL_nat {bs : List UInt8} {A : Nat} {W D : Int} {k : Nat} (h : k ≤ 8) : lazyL bs A W D (k : Int) = lazyP bs A W D k := by
  unfold lazyL
  rw [if_pos (lazyE_nat h), Int.toNat_natCast]
theorem lazyP_zero {bs : List UInt8} {A : Nat} {W D : Int} (hA : A ≤ bs.length) : lazyP bs A W D 0 = fromL bs A W D 0 3 := by
  rw [fromL_ok (Int.le_refl _) (Int.le_refl _) (by omega)]
  unfold lazyP
  rw [lazy_zero (fun p s h => (findS_form h).2.1)]
end Go.Port
namespace Go.Proofs.YtlgablepckmogaaGreat
open Go.RowKit Go.Port
set_option maxRecDepth 100000 in
set_option maxHeartbeats 4000000 in
theorem lzsteps_bad (bs : List UInt8) (A : Nat) (W D : Int) (F : Nat) (far : Int) (w : World) (h : FdAt 50 79 bs A W D F w) (he : lazyE far ≠ 0) :
    Calls Tryz.prog 56 #[.pointer (some ⟨F, 0, none⟩), .int .i64 far] w fun e w' => e = .returned (.tuple #[.slice none 0 0, .int .i64 2]) ∧ w = w' := by
  have HDe := hid (cdepth_any bs A W D F w h)
  have hD := h.hD.1
  have hDn : ¬ D = 0 := by omega
  have hDb : (D == 0) = false := beq_eq_false_iff_ne.2 hDn
  have hc := (lazyE_bad he).2
  clear h hD he
  go_enter Tryz.func56, Tryz.ntmps56
  go_wp2_with fail
  refine wp_scope_jumps 0 (fun a' w' => (∃ x0 x1 x2 x3 x4 x6 x7 x8 x9 x10 x11 x12 x13 x14 x15 x16 x17 x18 x19 x20 x21 x22 x23 x24 x25 x26 x27 x28 x29 x30 x31 x32 x33 x34 x35 x36 x37 x38 x39 : Value, a' = { tmps := #[x0, x1, x2, x3, x4, .int .i64 2, x6, x7, x8, x9, x10, x11, x12, x13, x14, x15, x16, x17, x18, x19, x20, x21, x22, x23, x24, x25, x26, x27, x28, x29, x30, x31, x32, x33, x34, x35, x36, x37, x38, x39], defers := [] }) ∧ w = w') (fun _ _ => 0) rfl ?first ?pass
  case first =>
    rcases hc with h1 | ⟨h1, h2⟩
    all_goals
      go_wp2_with fail
      refine HDe.out.mono ?_
      rintro e w' ⟨rfl, rfl⟩
      go_wp2_with fail
      refine wp_goto ?_
      refine And.intro (rfl : 0 = 0) ?_
      refine ⟨?_, rfl⟩
      repeat apply Exists.intro
      rfl
  case pass =>
    rintro a1 w1 ⟨⟨x0, x1, x2, x3, x4, x6, x7, x8, x9, x10, x11, x12, x13, x14, x15, x16, x17, x18, x19, x20, x21, x22, x23, x24, x25, x26, x27, x28, x29, x30, x31, x32, x33, x34, x35, x36, x37, x38, x39, rfl⟩, rfl⟩
    go_wp2
    simp only [Exit.jump]
    go_ret2
    exact ⟨rfl, rfl⟩
set_option maxRecDepth 100000 in
set_option maxHeartbeats 8000000 in
theorem look_any (bs : List UInt8) (A : Nat) (W D : Int) (F : Nat) (far : Int) (w : World) (h : FdAt 50 79 bs A W D F w) :
    Calls Tryz.prog 39 #[.pointer (some ⟨F, 0, none⟩), .int .i64 far] w fun e w' => ∃ v, e = .returned (.tuple #[v, .int .i64 (lazyE far)]) ∧ w'.ownsRow w.heap.size 43 3 v (seqs (lazyL bs A W D far)).length ((seqs (lazyL bs A W D far)).flatMap sqc) ∧ Below w.heap.size w w' := by
  by_cases h0 : far = 0
  · subst h0
    have HG := hid (gparse_any bs A W D F w h)
    rw [show (0 : Int) = ((0 : Nat) : Int) from rfl, lazyL_nat (Nat.zero_le _), lazyP_zero h.hA, lazyE_nat (Nat.zero_le _)]
    clear h
    go_enter Tryz.func39, Tryz.ntmps39
    go_wp2_with fail
    refine HG.out.mono ?_
    rintro e w1 ⟨v, rfl, hown, hb1⟩
    have HO := hid hown
    have HB := hid hb1
    clear hown hb1 HG
    go_wp2
    go_ret2
    exact ⟨_, rfl, HO.out, HB.out⟩
  have hb0 : (far == 0) = false := beq_eq_false_iff_ne.2 h0
  have hlen := lazyL_length bs A W D far
  have hbn := h.hn
  by_cases he : lazyE far = 0
  · obtain ⟨kf, rfl, hkf⟩ := lazyE_ok he
    have HSt := hid (lzsteps_ok bs A W D F kf w h hkf)
    rw [← lazyL_nat hkf] at HSt
    rw [he]
    have hln : (lazyL bs A W D (kf : Int)).length ≤ 1000000 := Nat.le_trans hlen hbn
    clear h he hlen hbn
    generalize lazyL bs A W D (kf : Int) = L at *
    go_enter Tryz.func39, Tryz.ntmps39
    go_wp2_with fail
    refine HSt.out.mono ?_
    rintro e w1 ⟨v, rfl, hown, hb1⟩
    obtain ⟨av, cv, rfl⟩ := own_slice hown
    have hcl := (Sl.of_owns hown).cells' rfl
    have hcap := (Sl.of_owns hown).cap rfl
    have HC := hid hcl
    have HB1 := hid hb1
    have HC0 := hid hcap
    clear hown hcl hb1 HSt hcap
    go_wp2
    go_loopg [4, 7] L.length (fun g v t wr => ∃ (pre rest : List (Int × Sq)) (a : Option Addr) (c : Nat), Hid (L = pre ++ rest ∧ CellsAt w1 a (rest.flatMap stc) ∧ rest.length ≤ c) ∧ rest.length = g ∧ t = .slice a rest.length c ∧ wr.ownsRow w1.heap.size 43 3 v pre.length ((seqs pre).flatMap sqc) ∧ Below w1.heap.size w1 wr)
    case atStart => exact ⟨[], L, av, cv, hid ⟨rfl, HC.out, HC0.out.1⟩, rfl, rfl, World.ownsRow_nil _ _ _ _, Below.refl _ _⟩
    case round =>
      obtain ⟨pre, rest, a, c, HI, hgl, rfl, hown, hBr⟩ := hrel
      have HO := hid hown
      have HBr := hid hBr
      have HGl := hid hgl
      clear hgl
      cases rest with
      | nil =>
        have hE : L = pre := by rw [HI.out.1, List.append_nil]
        subst hE
        have HO9 := hid (own_le hown HB1.out.size)
        clear hown hBr
        go_wp2
        go_ret2
        unfold seqs
        rw [List.length_map]
        exact ⟨_, rfl, HO9.out, HB1.out.trans (HBr.out.mono HB1.out.size)⟩
      | cons y rest =>
        obtain ⟨ya, ⟨yl, yn, yo⟩⟩ := y
        have hcc := HI.out.2.1
        have hle := HI.out.2.2
        obtain ⟨b, off, rfl, hbl, _⟩ := hcc 0 (.int .i64 ya) rfl
        obtain ⟨_, _, e, _, x1⟩ := hcc 1 (.int .i64 yl) rfl
        cases e
        obtain ⟨_, _, e, _, x2⟩ := hcc 2 (.int .i64 yn) rfl
        cases e
        obtain ⟨_, _, e, _, x3⟩ := hcc 3 (.int .i64 yo) rfl
        cases e
        replace x1 := (hBr.cell (p := ⟨b, off + 1, none⟩) hbl).trans x1
        replace x2 := (hBr.cell (p := ⟨b, off + 2, none⟩) hbl).trans x2
        replace x3 := (hBr.cell (p := ⟨b, off + 3, none⟩) hbl).trans x3
        have hL2 : L = (pre ++ [((ya, ⟨yl, yn, yo⟩) : Int × Sq)]) ++ rest := by rw [HI.out.1, List.append_assoc]; rfl
        have hpl : pre.length + rest.length + 1 ≤ 1000000 := by
          have h1 := hln
          rw [hL2] at h1
          simp only [List.length_append, List.length_cons, List.length_nil] at h1
          omega
        have HC2 := hid (show CellsAt w1 (some ⟨b, off + 4, none⟩) (rest.flatMap stc) from (fun j u hu => by
          obtain ⟨b2, o2, e1, e2, e3⟩ := hcc (4 + j) u (by
            show ([_, _, _, _] ++ rest.flatMap stc)[4 + j]? = some u
            rw [List.getElem?_append_right (by simp)]
            simpa using hu)
          simp only [Option.some.injEq, Addr.mk.injEq, and_true] at e1
          obtain ⟨rfl, rfl⟩ := e1
          exact ⟨b, off + 4, rfl, e2, by rw [Nat.add_assoc]; exact e3⟩))
        have HL2 := hid hL2
        have HPl := hid hpl
        have hbs := hBr.size
        obtain ⟨av, cv, rfl⟩ := own_slice hown
        simp only [List.length_cons] at hle ⊢
        have hcI : ((rest.length : Int) + 1) ≤ (c : Int) := by omega
        have hc1 : rest.length + 1 ≤ c := hle
        have hlI : (0 : Int) < ((rest.length + 1 : Nat) : Int) := by omega
        have hlI2 : (1 : Int) ≤ ((rest.length + 1 : Nat) : Int) := by omega
        clear hcc hown hBr hL2 hpl HI hle
        go_wp2_with (at_builtin; refine Hid.out ?_)
        refine hid ?_
        refine wpList_append1 rfl _ _ 28 rfl 43 _ 3 24 Tryz.underlying28 Tryz.info_seq rfl (by decide) (by decide) _ w1.heap.size _ _ _ [.int .i64 yl, .int .i64 yn, .int .i64 yo] rfl ?hu rfl rfl (by exact HO.out) ?hn hbs ?hk
        case hu => simp [Value.oneCell']
        case hn => have := HPl.out; omega
        case hk =>
          intro v' w3 hown' hg
          have hbg := below_grown HO.out hg hbs
          have HB3 := hid (HBr.out.trans hbg)
          have HO3 := hid hown'
          clear hown' hg hbg x1 x2 x3
          by_cases h1 : rest.length = 0
          · have hr : rest = [] := List.eq_nil_of_length_eq_zero h1
            subst hr
            go_wp2
            go_roundg 0
            case measure => have := HGl.out; simp only [List.length_cons] at this; omega
            case rel =>
              refine ⟨pre ++ [((ya, ⟨yl, yn, yo⟩) : Int × Sq)], [], some ⟨b, off, none⟩, 0, hid ⟨HL2.out, (fun j u hu => by simp at hu), Nat.le_refl _⟩, rfl, rfl, ?_, HB3.out⟩
              rw [seqs_append, List.length_append, List.flatMap_append]
              exact HO3.out
          · go_wp2
            go_roundg rest.length
            case measure => have := HGl.out; simp only [List.length_cons] at this; omega
            case rel =>
              refine ⟨pre ++ [((ya, ⟨yl, yn, yo⟩) : Int × Sq)], rest, some ⟨b, off + 4, none⟩, rest.length, hid ⟨HL2.out, HC2.out, Nat.le_refl _⟩, rfl, rfl, ?_, HB3.out⟩
              rw [seqs_append, List.length_append, List.flatMap_append]
              exact HO3.out
  · have HSt := hid (lzsteps_bad bs A W D F far w h he)
    have hl : lazyL bs A W D far = [] := by unfold lazyL; rw [if_neg he]
    rw [hl, (lazyE_bad he).1]
    clear h he hlen hbn hl
    go_enter Tryz.func39, Tryz.ntmps39
    go_wp2_with fail
    refine HSt.out.mono ?_
    rintro e w1 ⟨rfl, rfl⟩
    go_wp2_with fail
    refine wp_loop_rounds 1 ?_
    rw [rounds_succ]
    go_wp2_with fail
    go_ret2
    exact ⟨_, rfl, World.ownsRow_nil _ _ _ _, Below.refl _ _⟩
end Go.Proofs.YtlgablepckmogaaGreat
