/-
  The walks of layer 31: the cheapest lookahead, Parse; finders that are nil or zero.
-/
import Derived.Test.YtclheffeiaaodaaLzT
namespace Go.Proofs.Ytclheffeiaaodaa
open Go.RowKit Go.Port

theorem lzless_any (x y : Int) (w : World) : Calls Try.prog 39 #[.int .i64 x, .int .i64 y] w fun e w' => e = .returned (.bool (decide (x < y))) ∧ w = w' := by
  go_enter Try.func39, Try.ntmps39
  go_wp2
  go_ret
  exact ⟨rfl, rfl⟩

set_option maxRecDepth 100000 in
set_option maxHeartbeats 4000000 in
theorem lzleast_any (a : Option Addr) (n c : Nat) (f : Nat → Int) (w : World) (hn : n ≤ 100) (hc : ∀ k, k < n → ∃ b off, a = some ⟨b, off, none⟩ ∧ b < w.heap.size ∧ w.cell? ⟨b, off + k, none⟩ = some (.int .i64 (f k))) :
    Calls Try.prog 38 #[.slice a n c, .func (.func 39) #[] #[]] w fun e w' => e = .returned (.int .i64 (leastGo f n : Nat)) ∧ w = w' := by
  have HC := hid hc
  have HL := hid lzless_any
  clear hc
  go_enter Try.func38, Try.ntmps38
  go_wp2_with fail
  go_loopw [4, 9] (fun t i wr => ∃ k : Nat, k ≤ n ∧ i = .int .i64 (k : Int) ∧ t = .int .i64 (leastGo f k : Nat) ∧ wr = w) (fun _ i _ => n - (intOf i).toNat)
  case atStart => exact ⟨0, Nat.zero_le _, rfl, rfl, rfl⟩
  case round =>
    obtain ⟨k, hk, rfl, rfl, rfl⟩ := hrel
    by_cases hlt : k < n
    · have hlt2 : leastGo f k < n := by
        cases k with
        | zero => exact hlt
        | succ j => have := leastGo_lt f j; omega
      have hstep : leastGo f (k + 1) = if f k < f (leastGo f k) then k else leastGo f k := rfl
      generalize leastGo f k = b at *
      obtain ⟨bl, of', rfl, _, d1⟩ := HC.out k hlt
      obtain ⟨_, _, e2, _, d2⟩ := HC.out b hlt2
      cases e2
      have HS := hid hstep
      have HK := hid (And.intro hlt hn)
      have hkI : (k : Int) < (n : Int) := by omega
      have hbI : (b : Int) < (n : Int) := by omega
      have hk8 : (k : Int) ≤ 100 := by omega
      have HLc := hid (HL.out (f k) (f b) wr)
      by_cases hless : f k < f b
      · have ht : decide (f k < f b) = true := decide_eq_true hless
        rw [if_pos hless] at HS
        rw [ht] at HLc
        clear hstep hless ht
        generalize f k = x at *
        generalize f b = y at *
        go_wp2_with fail
        refine HLc.out.mono ?_
        rintro e w' ⟨rfl, rfl⟩
        go_wp2
        go_roundw
        case rel => exact ⟨k + 1, by have := HK.out.1; omega, by go_num, by rw [HS.out], trivial⟩
        case measure => have := HK.out.1; simp [intOf]; omega
      · have ht : decide (f k < f b) = false := decide_eq_false hless
        rw [if_neg hless] at HS
        rw [ht] at HLc
        clear hstep hless ht
        generalize f k = x at *
        generalize f b = y at *
        go_wp2_with fail
        refine HLc.out.mono ?_
        rintro e w' ⟨rfl, rfl⟩
        go_wp2
        go_roundw
        case rel => exact ⟨k + 1, by have := HK.out.1; omega, by go_num, by rw [HS.out], trivial⟩
        case measure => have := HK.out.1; simp [intOf]; omega
    · obtain rfl : k = n := by omega
      go_wp2
      go_ret
      exact ⟨rfl, rfl⟩

theorem lzcosts_bad (bs : List UInt8) (A : Nat) (W D : Int) (F : Nat) (far : Int) (w : World) (h : FdAt 64 130 bs A W D F w) (he : lazyE far ≠ 0) :
    Calls Try.prog 17 #[.pointer (some ⟨F, 0, none⟩), .int .i64 far] w (RetV w (.tuple #[.slice none 0 0, .int .i64 2])) := by
  have HB := hid (below_new w (.cells #[.pointer (some ⟨F, 0, none⟩)] 23))
  have HSt := hid (lzsteps_bad bs A W D F far _ (h.low (below_new w (.cells #[.pointer (some ⟨F, 0, none⟩)] 23))) he)
  clear h he
  go_enter Try.func17, Try.ntmps17
  go_wp2_with fail
  refine HSt.out.mono ?_
  rintro e w' ⟨rfl, rfl⟩
  go_wp2
  go_ret2
  exact ⟨rfl, HB.out⟩
theorem lzcosts_none (q : Option Addr) (far : Int) (w : World) (h : NoFd q w) :
    Calls Try.prog 17 #[.pointer q, .int .i64 far] w (RetV w (.tuple #[.slice none 0 0, .int .i64 1])) := by
  have hb := below_new w (.cells #[.pointer q] 23)
  have HB := hid hb
  have HSt := hid (lzsteps_none q far (w.alloc (.cells #[.pointer q] 23)) (h.imp id fun ⟨F, h1, h2⟩ => ⟨F, h1, h2.below hb h2.lt⟩))
  clear h hb
  go_enter Try.func17, Try.ntmps17
  go_wp2_with fail
  refine HSt.out.mono ?_
  rintro e w' ⟨rfl, rfl⟩
  go_wp2
  go_ret2
  exact ⟨rfl, HB.out⟩

/-- Costs, for every lookahead. -/
theorem lzcosts_any (bs : List UInt8) (A : Nat) (W D far : Int) (F : Nat) (w : World) (h : FdAt 64 130 bs A W D F w) (hb : bs.length ≤ 90000) :
    Calls Try.prog 17 #[.pointer (some ⟨F, 0, none⟩), .int .i64 far] w fun e w' => ∃ v, e = .returned (.tuple #[v, .int .i64 (lazyE far)]) ∧ w'.ownsRow w.heap.size 3 1 v (lazyK bs A W D far).length ((lazyK bs A W D far).map iv) ∧ Below w.heap.size w w' := by
  by_cases he : lazyE far = 0
  · obtain ⟨kf, rfl, hkf⟩ := lazyE_ok he
    rw [he, lazyK_nat hkf, lazyCs_length]
    exact lzcosts_ok bs A W D F kf w h hb hkf
  · refine (lzcosts_bad bs A W D F far w h he).mono ?_
    rintro e w' ⟨rfl, hb⟩
    have hl : lazyK bs A W D far = [] := by unfold lazyK; rw [if_neg he]
    rw [hl, (lazyE_bad he).1]
    exact ⟨_, rfl, World.ownsRow_nil _ _ _ _, hb⟩

set_option maxRecDepth 100000 in
set_option maxHeartbeats 4000000 in
theorem lzbest_any (bs : List UInt8) (A : Nat) (W D far : Int) (F : Nat) (w : World) (h : FdAt 64 130 bs A W D F w) (hb : bs.length ≤ 90000) :
    Calls Try.prog 19 #[.pointer (some ⟨F, 0, none⟩), .int .i64 far] w (RetV w (.tuple #[.int .i64 (lazyBo bs A W D far), .int .i64 (lazyBp bs A W D far), .int .i64 (lazyE far)])) := by
  by_cases he : lazyE far = 0
  · obtain ⟨kf, rfl, hkf⟩ := lazyE_ok he
    have e1 : lazyBo bs A W D (kf : Int) = (leastGo (lazyC bs A W D) (kf + 1) : Nat) := by unfold lazyBo lazyB; rw [if_pos he, Int.toNat_natCast]
    have e2 : lazyBp bs A W D (kf : Int) = lazyC bs A W D (leastGo (lazyC bs A W D) (kf + 1)) := by unfold lazyBp lazyB; rw [if_pos he, Int.toNat_natCast]
    have HPr := hid (lzcosts_ok bs A W D F kf w h hb hkf)
    have HLs := hid lzleast_any
    rw [he, e1, e2]
    have HG := hid (fun k (hk : k < kf + 1) => lazyCs_get (bs := bs) (A := A) (W := W) (D := D) (n := kf + 1) hk)
    generalize lazyC bs A W D = f at *
    generalize lazyCs bs A W D (kf + 1) = L at *
    clear he e1 e2 h hb
    go_enter Try.func19, Try.ntmps19
    go_wp2_with fail
    refine HPr.out.mono ?_
    rintro e w1 ⟨v, rfl, hown, hb1⟩
    obtain ⟨av, cv, rfl⟩ := own_slice hown
    have HB1 := hid hb1
    have HC1 := hid (fun k (hk : k < kf + 1) => ((Sl.of_owns hown).cells' rfl) k (iv (f k)) (by rw [List.getElem?_map, HG.out k hk]; rfl))
    clear hown hb1 HPr
    go_wp2_with fail
    refine (HLs.out av (kf + 1) cv f w1 (by omega) HC1.out).mono ?_
    rintro e w' ⟨rfl, rfl⟩
    have hlt2 := leastGo_lt f kf
    generalize hbk : leastGo f (kf + 1) = b at *
    obtain ⟨bl, of', rfl, _, d1⟩ := HC1.out b hlt2
    unfold iv at d1
    have hbI : (b : Int) < ((kf + 1 : Nat) : Int) := by omega
    generalize hy : f b = y at *
    clear hbk hy
    go_wp2_with fail
    go_quiet (fail)
    have HB9 := hid (below_drewN HB1.out nq)
    go_wp2
    go_ret3
    exact ⟨rfl, HB9.out⟩
  · have e1 : lazyBo bs A W D far = 0 := by unfold lazyBo; rw [if_neg he]
    have e2 : lazyBp bs A W D far = 0 := by unfold lazyBp; rw [if_neg he]
    have e3 := (lazyE_bad he).1
    have HPr := hid (lzcosts_bad bs A W D F far w h he)
    rw [e1, e2, e3]
    clear he e1 e2 e3 h hb
    go_enter Try.func19, Try.ntmps19
    go_wp2_with fail
    refine HPr.out.mono ?_
    rintro e w1 ⟨rfl, hb1⟩
    go_wp2
    go_ret3
    exact ⟨rfl, hb1⟩
theorem lzbest_none (q : Option Addr) (far : Int) (w : World) (h : NoFd q w) :
    Calls Try.prog 19 #[.pointer q, .int .i64 far] w (RetV w (.tuple #[.int .i64 0, .int .i64 0, .int .i64 1])) := by
  have HPr := hid (lzcosts_none q far w h)
  clear h
  go_enter Try.func19, Try.ntmps19
  go_wp2_with fail
  refine HPr.out.mono ?_
  rintro e w1 ⟨rfl, hb1⟩
  go_wp2
  go_ret3
  exact ⟨rfl, hb1⟩

theorem lzparse_any (bs : List UInt8) (A : Nat) (W D : Int) (F : Nat) (w : World) (h : FdAt 64 130 bs A W D F w) (hb : bs.length ≤ 90000) :
    Calls Try.prog 21 #[.pointer (some ⟨F, 0, none⟩)] w fun e w' => ∃ v, e = .returned (.tuple #[v, .int .i64 0]) ∧ w'.ownsRow w.heap.size 49 3 v (seqs (lazyP bs A W D (lazyB bs A W D 2))).length ((seqs (lazyP bs A W D (lazyB bs A W D 2))).flatMap sqc) ∧ Below w.heap.size w w' := by
  have hB := lzbest_any bs A W D 2 F w h hb
  have hlt : lazyB bs A W D 2 ≤ 8 := by have := leastGo_lt (lazyC bs A W D) 2; unfold lazyB; omega
  have e0 : lazyBo bs A W D 2 = (lazyB bs A W D 2 : Nat) := by unfold lazyBo; rw [show (2 : Int) = ((2 : Nat) : Int) from rfl, lazyE_nat (by omega), if_pos rfl, Int.toNat_natCast]
  have e1 : lazyE 2 = 0 := by decide
  rw [e0, e1] at hB
  have HB := hid hB
  have HL := hid (fun W' hW' => look_any bs A W D F (lazyB bs A W D 2 : Nat) W' (h.low hW'))
  rw [lazyL_nat hlt, lazyE_nat hlt] at HL
  clear hB h hb hlt e0 e1
  generalize lazyB bs A W D 2 = of at *
  generalize lazyBp bs A W D 2 = pr at *
  go_enter Try.func21, Try.ntmps21
  go_wp2_with fail
  refine HB.out.mono ?_
  rintro e w1 ⟨rfl, hb1⟩
  have HB1 := hid hb1
  have HLc := hid (HL.out _ hb1)
  clear hb1 HB HL
  go_wp2_with fail
  refine HLc.out.mono ?_
  rintro e w2 ⟨v, rfl, hown, hb2⟩
  have HO := hid (own_le hown HB1.out.size)
  have HB2 := hid (HB1.out.trans (hb2.mono HB1.out.size))
  clear hown hb2
  go_wp2
  go_ret2
  exact ⟨_, rfl, HO.out, HB2.out⟩
theorem lzparse_none (q : Option Addr) (w : World) (h : NoFd q w) :
    Calls Try.prog 21 #[.pointer q] w (RetV w (.tuple #[.slice none 0 0, .int .i64 1])) := by
  have HPr := hid (lzbest_none q 2 w h)
  clear h
  go_enter Try.func21, Try.ntmps21
  go_wp2_with fail
  refine HPr.out.mono ?_
  rintro e w1 ⟨rfl, hb1⟩
  go_wp2
  go_ret2
  exact ⟨rfl, hb1⟩
end Go.Proofs.Ytclheffeiaaodaa
