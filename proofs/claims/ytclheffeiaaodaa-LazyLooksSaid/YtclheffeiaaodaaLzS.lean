/-
  The walks of layer 31: the costs with every lookahead, the cheapest plan; the reference's.
-/
import Derived.Test.YtclheffeiaaodaaLzR
import Derived.Test.YtclheffeiaaodaaLzD
import Derived.Test.YtclheffeiaaodaaIxB
namespace Go.Port
open Go.RowKit
/-- The costs, as they are handed back. -/
def lazyK (bs : List UInt8) (A : Nat) (W D far : Int) : List Int := if lazyE far = 0 then lazyCs bs A W D (far.toNat + 1) else []
theorem lazyK_nat {bs : List UInt8} {A : Nat} {W D : Int} {k : Nat} (h : k ≤ 8) : lazyK bs A W D (k : Int) = lazyCs bs A W D (k + 1) := by
  unfold lazyK
  rw [if_pos (lazyE_nat h), Int.toNat_natCast]
/-- The cheapest lookahead and its cost, as they are handed back. -/
def lazyBo (bs : List UInt8) (A : Nat) (W D far : Int) : Int := if lazyE far = 0 then (lazyB bs A W D far.toNat : Int) else 0
def lazyBp (bs : List UInt8) (A : Nat) (W D far : Int) : Int := if lazyE far = 0 then lazyC bs A W D (lazyB bs A W D far.toNat) else 0
end Go.Port
namespace Go.Proofs.Ytclheffeiaaodaa
open Go.RowKit Go.Port

set_option maxRecDepth 100000 in
set_option maxHeartbeats 4000000 in
theorem rprices_any (bs : List UInt8) (a : Option Addr) (c A : Nat) (W D far : Int) (w : World) (hb : bs.length ≤ 90000) (hbc : bs.length ≤ c) (hA : A ≤ bs.length) (hW : 1 ≤ W ∧ W ≤ 134217728) (hD : 1 ≤ D ∧ D ≤ 4096)
    (hc : CellsAt w a (bs.map bv)) :
    Calls Try.prog 18 #[fdv a bs.length c A W D, .int .i64 far] w fun e w' => ∃ v, e = .returned (.tuple #[v, .int .i64 (lazyE far)]) ∧ w'.ownsRow w.heap.size 3 1 v (lazyK bs A W D far).length ((lazyK bs A W D far).map iv) ∧ Below w.heap.size w w' := by
  have hX := Blk.new w (fdc a bs.length c A W D) 25
  have hB := below_new w (.cells (fdc a bs.length c A W D).toArray 25)
  have HLk := hid (fun W' (hW' : Below w.heap.size w W') (k : Nat) (hk : k ≤ 8) => rlook_any bs a c A W D (k : Int) W' (by omega) hbc hA hW hD (hc.low hW'))
  have HPr := hid (fun (k : Nat) (a2 : Option Addr) (c2 : Nat) W' h => rprice_any a2 c2 ((bs.length : Int) - (A : Int)) (seqs (lazyP bs A W D k)) W' (by omega) (by have := lazyP_length bs A W D k; unfold seqs; rw [List.length_map]; omega) (lazyP_in bs A W D k (by omega) hW.2) h)
  have HCm := hid (fun k => lazyC_some (D := D) (far := k) hA hW.2)
  have hw1 : IntKind.i64.wrap ((bs.length : Int) - (A : Int)) = (bs.length : Int) - (A : Int) := by rw [IntKind.wrap_i64]; omega
  unfold fdc at hX hB
  have HX := hid hX
  have HB := hid hB
  by_cases he : lazyE far = 0
  · obtain ⟨kf, rfl, hkf⟩ := lazyE_ok he
    rw [he, lazyK_nat hkf, lazyCs_length]
    have HW1 := hid hw1
    have hf1 : ¬ (kf : Int) < 0 := by omega
    have hf2 : ¬ 8 < (kf : Int) := by omega
    have hkI : (kf : Int) ≤ 8 := by omega
    unfold fdv at HLk ⊢
    clear hX hB hb hbc hA hW hD hc he hw1
    go_enter Try.func18, Try.ntmps18
    go_wp2
    clear hf1 hf2
    go_loopw [6, 7] (fun v t wr => ∃ k : Nat, k ≤ kf + 1 ∧ t = .int .i64 (k : Int) ∧ wr.ownsRow (w.heap.size + 1) 3 1 v k ((lazyCs bs A W D k).map iv) ∧ Blk wr w.heap.size [.slice a bs.length c, .int .i64 (A : Int), .int .i64 W, .int .i64 D] 25 ∧ Below w.heap.size w wr) (fun _ t _ => kf + 1 - (intOf t).toNat)
    case atStart => exact ⟨0, Nat.zero_le _, rfl, World.ownsRow_nil _ _ _ _, HX.out, HB.out⟩
    case round =>
      obtain ⟨k, hk, rfl, hown, hbx, hBr⟩ := hrel
      have HO := hid hown
      have HXr := hid hbx
      have HBr := hid hBr
      by_cases hlt : k ≤ kf
      · have HK := hid hlt
        have hkk : (k : Int) ≤ (kf : Int) := by omega
        have HLc := hid (HLk.out wr HBr.out k (by omega))
        rw [lazyL_nat (by omega), lazyE_nat (by omega)] at HLc
        have HPk := hid (HPr.out k)
        have HCk := hid (HCm.out k)
        have HS := hid (lazyCs_succ bs A W D k)
        rw [HCk.out] at HPk
        generalize seqs (lazyP bs A W D k) = l at *
        generalize lazyC bs A W D k = r at *
        unfold costR at HPk
        dsimp only [Option.getD, Option.isSome] at HPk
        have b0 := hbx.cell (k := 0) rfl
        have b1 := hbx.cell (k := 1) rfl
        have b2 := hbx.cell (k := 2) rfl
        have b3 := hbx.cell (k := 3) rfl
        have hw1 := HW1.out
        clear hown hbx hBr hk hlt
        go_wp2_with fail
        refine HLc.out.mono ?_
        rintro e w1 ⟨v1, rfl, hown, hb1⟩
        obtain ⟨a1, c1, rfl⟩ := own_slice hown
        have HCl := hid ((Sl.of_owns hown).cells' rfl)
        have HO1 := hid (own_low HO.out hb1)
        have HX1 := hid (HXr.out.below hb1 HXr.out.lt)
        have HB1 := hid (HBr.out.trans (hb1.mono HBr.out.size))
        clear hown hb1 b0 b1 b2 b3
        have b0 := HX1.out.cell (k := 0) rfl
        have b1 := HX1.out.cell (k := 1) rfl
        go_wp2_with fail
        refine (HPk.out _ _ _ HCl.out).mono ?_
        rintro e w2 ⟨rfl, hb2⟩
        have HO2 := hid (own_low HO1.out hb2)
        have HX2 := hid (HX1.out.below hb2 HX1.out.lt)
        have HB2 := hid (HB1.out.trans (hb2.mono HB1.out.size))
        have hss : w.heap.size + 1 ≤ w2.heap.size := HX2.out.lt
        clear hb2 b0 b1
        obtain ⟨av, cv, rfl⟩ := own_slice HO2.out
        go_wp2_with (at_builtin; refine Hid.out ?_)
        refine hid ?_
        refine wpList_append1 rfl _ _ 38 rfl 3 _ 1 8 Try.underlying38 Try.info_int rfl (by decide) (by decide) _ (w.heap.size + 1) _ _ _ [.int .i64 r] rfl ?hu rfl rfl (by exact HO2.out) ?hn hss ?hk
        case hu => simp [Value.oneCell']
        case hn => have := HK.out; omega
        case hk =>
          intro v' w3 hown' hg
          have hbg := below_grown HO2.out hg hss
          have HB3 := hid (HB2.out.trans (hbg.mono (Nat.le_succ _)))
          have HX3 := hid (HX2.out.grown hg (own_neT HO2.out HX2.out (by decide)))
          have HO3 := hid (show w3.ownsRow (w.heap.size + 1) 3 1 v' (k + 1) ((lazyCs bs A W D (k + 1)).map iv) from by
            rw [HS.out, List.map_append]
            exact hown')
          clear hown' hg hbg
          go_wp2
          go_roundw
          case rel => exact ⟨k + 1, by have := HK.out; omega, by go_num, HO3.out, HX3.out, HB3.out⟩
          case measure => have := HK.out; simp [intOf]; omega
      · obtain rfl : k = kf + 1 := by omega
        have hkk : ¬ ((kf + 1 : Nat) : Int) ≤ (kf : Int) := by omega
        have HOf := hid (own_le HO.out (Nat.le_succ w.heap.size))
        clear hown hbx
        go_wp2
        go_ret2
        exact ⟨_, rfl, HOf.out, HBr.out⟩
  · have hl : lazyK bs A W D far = [] := by unfold lazyK; rw [if_neg he]
    have hcs := (lazyE_bad he).2
    rw [hl, (lazyE_bad he).1]
    unfold fdv
    clear hX hB hb hbc hA hW hD hc he hl HLk HPr HCm hw1
    rcases hcs with h1 | ⟨h1, h2⟩
    all_goals
      go_enter Try.func18, Try.ntmps18
      go_wp2
      go_ret2
      exact ⟨_, rfl, World.ownsRow_nil _ _ _ _, HB.out⟩

set_option maxRecDepth 100000 in
set_option maxHeartbeats 4000000 in
theorem rlbest_any (bs : List UInt8) (a : Option Addr) (c A : Nat) (W D far : Int) (w : World) (hb : bs.length ≤ 90000) (hbc : bs.length ≤ c) (hA : A ≤ bs.length) (hW : 1 ≤ W ∧ W ≤ 134217728) (hD : 1 ≤ D ∧ D ≤ 4096)
    (hc : CellsAt w a (bs.map bv)) :
    Calls Try.prog 20 #[fdv a bs.length c A W D, .int .i64 far] w (RetV w (.tuple #[.int .i64 (lazyBo bs A W D far), .int .i64 (lazyBp bs A W D far), .int .i64 (lazyE far)])) := by
  have hX := Blk.new w (fdc a bs.length c A W D) 25
  have hB := below_new w (.cells (fdc a bs.length c A W D).toArray 25)
  have HPr := hid (rprices_any bs a c A W D far _ hb hbc hA hW hD (hc.low hB))
  unfold fdc at hX hB HPr
  have HB := hid hB
  have b0 := hX.cell (k := 0) rfl
  have b1 := hX.cell (k := 1) rfl
  have b2 := hX.cell (k := 2) rfl
  have b3 := hX.cell (k := 3) rfl
  unfold fdv at HPr ⊢
  clear hX hB hb hbc hA hW hD hc
  by_cases he : lazyE far = 0
  · obtain ⟨kf, rfl, hkf⟩ := lazyE_ok he
    have e1 : lazyBo bs A W D (kf : Int) = (leastGo (lazyC bs A W D) (kf + 1) : Nat) := by unfold lazyBo lazyB; rw [if_pos he, Int.toNat_natCast]
    have e2 : lazyBp bs A W D (kf : Int) = lazyC bs A W D (leastGo (lazyC bs A W D) (kf + 1)) := by unfold lazyBp lazyB; rw [if_pos he, Int.toNat_natCast]
    rw [he, lazyK_nat hkf] at HPr
    rw [he, e1, e2]
    have HG := hid (fun k (hk : k < kf + 1) => lazyCs_get (bs := bs) (A := A) (W := W) (D := D) (n := kf + 1) hk)
    rw [lazyCs_length] at HPr
    generalize lazyC bs A W D = f at *
    generalize lazyCs bs A W D (kf + 1) = L at *
    clear he e1 e2
    go_enter Try.func20, Try.ntmps20
    go_wp2_with fail
    refine HPr.out.mono ?_
    rintro e w1 ⟨v, rfl, hown, hb1⟩
    obtain ⟨av, cv, rfl⟩ := own_slice hown
    have HB1 := hid (HB.out.trans (hb1.mono HB.out.size))
    have HC1 := hid (fun k (hk : k < kf + 1) => ((Sl.of_owns hown).cells' rfl) k (iv (f k)) (by rw [List.getElem?_map, HG.out k hk]; rfl))
    clear hown hb1 b0 b1 b2 b3 HPr
    go_wp2_with fail
    go_loopw [9, 10] (fun t i wr => ∃ k : Nat, 1 ≤ k ∧ k ≤ kf + 1 ∧ i = .int .i64 (k : Int) ∧ t = .int .i64 (leastGo f k : Nat) ∧ ∃ m, wr = w1.drewN m) (fun _ i _ => kf + 1 - (intOf i).toNat)
    case atStart => exact ⟨1, Nat.le_refl _, by omega, rfl, by rw [leastGo_one]; rfl, 0, rfl⟩
    case round =>
      obtain ⟨k, hk1, hk, rfl, rfl, m, rfl⟩ := hrel
      have hlt2 : leastGo f k < k := by
        obtain ⟨j, rfl⟩ : ∃ j, k = j + 1 := ⟨k - 1, by omega⟩
        exact leastGo_lt f j
      have hstep : leastGo f (k + 1) = if f k < f (leastGo f k) then k else leastGo f k := rfl
      generalize hbk : leastGo f k = b at *
      have HBk := hid hbk
      clear hbk
      by_cases hlt : k < kf + 1
      · obtain ⟨bl, of', rfl, _, d1⟩ := HC1.out k hlt
        obtain ⟨_, _, e2, _, d2⟩ := HC1.out b (by omega)
        cases e2
        unfold iv at d1 d2
        have HS := hid hstep
        have HK := hid (And.intro hlt hkf)
        have hkI : (k : Int) < ((kf + 1 : Nat) : Int) := by omega
        have hbI : (b : Int) < ((kf + 1 : Nat) : Int) := by omega
        have hk8 : (k : Int) ≤ 8 := by omega
        have hbl : b < kf + 1 := by omega
        have e0 : ∀ q, (w1.drewN m).drewN q = w1.drewN (m + q) := fun q => World.drewN_drewN _ _ _
        by_cases hless : f k < f b
        · have ht : decide (f k < f b) = true := decide_eq_true hless
          rw [if_pos hless] at HS
          clear hstep hless
          generalize f k = x at *
          generalize f b = y at *
          go_wp2_with fail
          go_quiet (fail)
          go_wp2
          go_roundw
          case rel => exact ⟨k + 1, by omega, by have := HK.out.1; omega, by go_num, by rw [HS.out], _, rfl⟩
          case measure => have := HK.out.1; simp [intOf]; omega
        · have ht : decide (f k < f b) = false := decide_eq_false hless
          rw [if_neg hless] at HS
          clear hstep hless
          generalize f k = x at *
          generalize f b = y at *
          go_wp2_with fail
          go_quiet (fail)
          go_wp2
          go_roundw
          case rel => exact ⟨k + 1, by omega, by have := HK.out.1; omega, by go_num, by rw [HS.out], _, rfl⟩
          case measure => have := HK.out.1; simp [intOf]; omega
      · obtain rfl : k = kf + 1 := by omega
        obtain ⟨bl, of', rfl, _, d1⟩ := HC1.out b hlt2
        unfold iv at d1
        have hbI : (b : Int) < ((kf + 1 : Nat) : Int) := by omega
        clear hstep
        generalize hy : f b = y at *
        have HY := hid hy
        clear hy
        go_wp2_with fail
        go_quiet (fail)
        have HB9 := hid (below_drewN (below_drewN HB1.out m) nq)
        go_wp2
        go_ret3
        rw [HBk.out, HY.out]
        exact ⟨rfl, HB9.out⟩
  · have e1 : lazyBo bs A W D far = 0 := by unfold lazyBo; rw [if_neg he]
    have e2 : lazyBp bs A W D far = 0 := by unfold lazyBp; rw [if_neg he]
    have e3 := (lazyE_bad he).1
    rw [e3] at HPr
    rw [e1, e2, e3]
    clear he e1 e2 e3
    go_enter Try.func20, Try.ntmps20
    go_wp2_with fail
    refine HPr.out.mono ?_
    rintro e w1 ⟨v, rfl, hown, hb1⟩
    obtain ⟨av, cv, rfl⟩ := own_slice hown
    have HB1 := hid (HB.out.trans (hb1.mono HB.out.size))
    clear hown hb1 b0 b1 b2 b3
    go_wp2
    go_ret3
    exact ⟨rfl, HB1.out⟩
end Go.Proofs.Ytclheffeiaaodaa
