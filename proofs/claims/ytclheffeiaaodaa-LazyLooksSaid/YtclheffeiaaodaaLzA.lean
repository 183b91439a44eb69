/-
  The walks of layer 31: a longer match within the lookahead.
-/
import Derived.Test.YtclheffeiaaodaaGrF
import Derived.Test.YtclheffeiaaodaaLzPlain
namespace Go.Port
open Go.RowKit
/-- What 'longer' hands back. -/
def longR (o : Option Int) : Value := .tuple #[.int .i64 (o.getD 0), .bool o.isSome]
end Go.Port
namespace Go.Proofs.Ytclheffeiaaodaa
open Go.RowKit Go.Port

set_option maxRecDepth 100000 in
set_option maxHeartbeats 4000000 in
theorem lzlonger_any (bs : List UInt8) (A : Nat) (W D : Int) (F Wk : Nat) (p frm n : Int) (far : Nat) (w0 w : World) (h : FdAt 64 130 bs A W D F w0) (hb0 : Below w0.heap.size w0 w)
    (hk : Blk w Wk [.pointer (some ⟨F, 0, none⟩), .int .i64 p, .int .i64 frm, .int .i64 (far : Int)] 104) (hp : 0 ≤ p) (hp2 : p ≤ 1000000) (hfar : far ≤ 8) :
    Calls Try.prog 76 #[.pointer (some ⟨Wk, 0, none⟩), .int .i64 n] w (RetV w (longR (longerS (findS bs A W D) p n far))) := by
  have HFi := hid (fun W' (hW' : Below w0.heap.size w0 W') (q : Int) => cfind_any bs A W D F q W' (h.low hW'))
  have HK := hid hk
  have HB := hid hb0
  have k1 := hk.cell (k := 1) rfl
  obtain ⟨R, hR⟩ : ∃ R, longerS (findS bs A W D) p n far = R := ⟨_, rfl⟩
  rw [hR]
  have HR := hid (show longerGo (findS bs A W D) p n far (p + 1 - p) = R from by rw [show p + 1 - p = 1 by omega]; exact hR)
  unfold sqv at HFi
  clear h hk hb0 hR
  generalize findS bs A W D = find at *
  go_enter Try.func76, Try.ntmps76
  go_wp2
  clear k1
  go_loopg [6] far (fun g t wr => ∃ (f : Nat) (q : Int), f = g ∧ t = .int .i64 q ∧ Hid (q + (f : Int) = p + (far : Int) + 1 ∧ p + 1 ≤ q ∧ longerGo find p n f (q - p) = R) ∧ Below w.heap.size w wr)
  case atStart => exact ⟨far, p + 1, rfl, rfl, hid ⟨by omega, Int.le_refl _, HR.out⟩, Below.refl _ _⟩
  case round =>
    obtain ⟨f, q, hfg, rfl, HI, hb⟩ := hrel
    have HFg := hid hfg
    clear hfg
    have hkr := HK.out.below hb HK.out.lt
    have k0 := hkr.cell (k := 0) rfl
    have k1 := hkr.cell (k := 1) rfl
    have k3 := hkr.cell (k := 3) rfl
    have hi := HI.out
    have hw1 : IntKind.i64.wrap (p + (far : Int)) = p + (far : Int) := by rw [IntKind.wrap_i64]; omega
    have HBr := hid hb
    clear hkr hb
    cases f with
    | zero =>
      have hd : decide (q ≤ p + (far : Int)) = false := decide_eq_false (by omega)
      have hRn : R = none := hi.2.2.symm
      subst hRn
      clear hi
      go_wp2_with fail
      go_quiet (fail)
      have HB2 := hid (below_drewN HBr.out nq)
      clear k0 k1 k3
      go_wp2
      go_ret2
      exact ⟨rfl, HB2.out⟩
    | succ f =>
      have hd : decide (q ≤ p + (far : Int)) = true := decide_eq_true (by omega)
      have hq1 : 0 ≤ q ∧ q ≤ 2000000 := by omega
      have HQ := hid hq1
      obtain ⟨o, ho⟩ : ∃ o, find q = o := ⟨_, rfl⟩
      have hcall := HFi.out (wr) (HB.out.trans (HBr.out.mono HB.out.size)) q
      have HFq := hid (fun W' hW' => HFi.out W' hW' q)
      rw [ho] at HFq
      have HO := hid ho
      clear hi hcall ho
      go_wp2_with fail
      go_quiet (fail)
      clear k1 k3 k0
      have HB2 := hid (below_drewN HBr.out nq)
      have hkr := HK.out.below HB2.out HK.out.lt
      have k0 := hkr.cell (k := 0) rfl
      generalize wr.drewN nq = w1 at *
      clear hkr hd hw1
      go_wp2_with fail
      refine (HFq.out _ (HB.out.trans (HB2.out.mono HB.out.size))).mono ?_
      rintro e w2 ⟨rfl, hb2⟩
      dsimp only
      have HB3 := hid (HB2.out.trans ((hb2.alloc hb2.size (.cells #[.int .i64 (o.getD Sq.zero).lit, .int .i64 (o.getD Sq.zero).len, .int .i64 (o.getD Sq.zero).off] 49)).mono HB2.out.size))
      clear hb2 k0
      have hq2 := HQ.out
      have hw3 : IntKind.i64.wrap (q + 1) = q + 1 := by rw [IntKind.wrap_i64]; omega
      cases o with
      | none =>
        have HN := hid (show longerGo find p n f (q + 1 - p) = R from by
          rw [← HI.out.2.2, longerGo_step (fun s hs => by rw [show p + (q - p) = q by omega, HO.out] at hs; cases hs)]
          congr 1
          omega)
        dsimp only [Option.isSome, Option.getD, Sq.zero] at HB3 ⊢
        clear hq2
        go_wp2
        go_roundg f
        case measure => have := HFg.out; omega
        case rel => exact ⟨f, q + 1, rfl, rfl, hid ⟨by have := HI.out.1; omega, by have := HI.out.2.1; omega, HN.out⟩, HB3.out⟩
      | some s =>
        obtain ⟨lit, len, off⟩ := s
        dsimp only [Option.isSome, Option.getD] at HB3 ⊢
        by_cases hl : n < len
        · have hRs : R = some q := by
            rw [← HI.out.2.2, longerGo_hit (s := ⟨lit, len, off⟩) (by rw [show p + (q - p) = q by omega]; exact HO.out) hl]
            congr 1
            omega
          subst hRs
          clear hq2
          go_wp2
          go_ret2
          exact ⟨rfl, HB3.out⟩
        · have HN := hid (show longerGo find p n f (q + 1 - p) = R from by
            rw [← HI.out.2.2, longerGo_step (fun s hs => by rw [show p + (q - p) = q by omega, HO.out] at hs; cases hs; exact hl)]
            congr 1
            omega)
          clear hq2
          go_wp2
          go_roundg f
          case measure => have := HFg.out; omega
          case rel => exact ⟨f, q + 1, rfl, rfl, hid ⟨by have := HI.out.1; omega, by have := HI.out.2.1; omega, HN.out⟩, HB3.out⟩
end Go.Proofs.Ytclheffeiaaodaa
