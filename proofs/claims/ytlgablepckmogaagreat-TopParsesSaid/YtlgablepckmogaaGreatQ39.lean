/-
  The walks of layer 31: the cheapest lookahead, Parse; finders that are nil or zero.
  Plain laws of TopParses: the plans of the three parsers are plans of the data. No program in sight.
  The walk of parses: the plan of a parser is a plan of the data.
  Plain laws of layers 6 and 26 (ring, exec): what a ring holds of its stream; what a copy yields.
-/
import Derived.Test.YtlgablepckmogaaGreatQ38
import Derived.Test.YtlgablepckmogaaGreatQ35
namespace Go.Proofs.YtlgablepckmogaaGreat
open Go.RowKit Go.Port
theorem lzless_any (x y : Int) (w : World) : Calls Tryz.prog 55 #[.int .i64 x, .int .i64 y] w fun e w' => e = .returned (.bool (decide (x < y))) ∧ w = w' := by
  go_enter Tryz.func55, Tryz.ntmps55
  go_wp2
  go_ret
  exact ⟨rfl, rfl⟩
set_option maxRecDepth 100000 in
set_option maxHeartbeats 4000000 in
theorem lzleast_any (a : Option Addr) (n c : Nat) (f : Nat → Int) (w : World) (hn : n ≤ 100) (hc : ∀ k, k < n → ∃ b off, a = some ⟨b, off, none⟩ ∧ b < w.heap.size ∧ w.cell? ⟨b, off + k, none⟩ = some (.int .i64 (f k))) :
    Calls Tryz.prog 54 #[.slice a n c, .func (.func 55) #[] #[]] w fun e w' => e = .returned (.int .i64 (leastGo f n : Nat)) ∧ w = w' := by
  have HC := hid hc
  have HL := hid lzless_any
  clear hc
  go_enter Tryz.func54, Tryz.ntmps54
  go_wp2_with fail
  go_loopw [4, 9] (fun t i wr => ∃ k : Nat, k ≤ n ∧ i = .int .i64 (k : Int) ∧ t = .int .i64 (leastGo f k : Nat) ∧ wr = w) (fun _ i _ => n - (intOf i).toNat)
  case atStart => exact ⟨0, Nat.zero_le _, rfl, rfl, rfl⟩
  case round =>
    obtain ⟨k, hk, rfl, rfl, rfl⟩ := hrel
    by_cases hlt : k < n
    · have hlt2 : leastGo f k < n := by
        cases k with
        | zero => exact hlt
        | succ j => have := leastGo_lt f j; omega
      have hstep : leastGo f (k + 1) = if f k < f (leastGo f k) then k else leastGo f k := rfl
      generalize leastGo f k = b at *
      obtain ⟨bl, of', rfl, _, d1⟩ := HC.out k hlt
      obtain ⟨_, _, e2, _, d2⟩ := HC.out b hlt2
      cases e2
      have HS := hid hstep
      have HK := hid (And.intro hlt hn)
      have hkI : (k : Int) < (n : Int) := by omega
      have hbI : (b : Int) < (n : Int) := by omega
      have hk8 : (k : Int) ≤ 100 := by omega
      have HLc := hid (HL.out (f k) (f b) wr)
      by_cases hless : f k < f b
      · have ht : decide (f k < f b) = true := decide_eq_true hless
        rw [if_pos hless] at HS
        rw [ht] at HLc
        clear hstep hless ht
        generalize f k = x at *
        generalize f b = y at *
        go_wp2_with fail
        refine HLc.out.mono ?_
        rintro e w' ⟨rfl, rfl⟩
        go_wp2
        go_roundw
        case rel => exact ⟨k + 1, by have := HK.out.1; omega, by go_num, by rw [HS.out], trivial⟩
        case measure => have := HK.out.1; simp [intOf]; omega
      · have ht : decide (f k < f b) = false := decide_eq_false hless
        rw [if_neg hless] at HS
        rw [ht] at HLc
        clear hstep hless ht
        generalize f k = x at *
        generalize f b = y at *
        go_wp2_with fail
        refine HLc.out.mono ?_
        rintro e w' ⟨rfl, rfl⟩
        go_wp2
        go_roundw
        case rel => exact ⟨k + 1, by have := HK.out.1; omega, by go_num, by rw [HS.out], trivial⟩
        case measure => have := HK.out.1; simp [intOf]; omega
    · obtain rfl : k = n := by omega
      go_wp2
      go_ret
      exact ⟨rfl, rfl⟩
theorem lzcosts_bad (bs : List UInt8) (A : Nat) (W D : Int) (F : Nat) (far : Int) (w : World) (h : FdAt 50 79 bs A W D F w) (he : lazyE far ≠ 0) :
    Calls Tryz.prog 53 #[.pointer (some ⟨F, 0, none⟩), .int .i64 far] w (RetV w (.tuple #[.slice none 0 0, .int .i64 2])) := by
  have HB := hid (below_new w (.cells #[.pointer (some ⟨F, 0, none⟩)] 24))
  have HSt := hid (lzsteps_bad bs A W D F far _ (h.low (below_new w (.cells #[.pointer (some ⟨F, 0, none⟩)] 24))) he)
  clear h he
  go_enter Tryz.func53, Tryz.ntmps53
  go_wp2_with fail
  refine HSt.out.mono ?_
  rintro e w' ⟨rfl, rfl⟩
  go_wp2
  go_ret2
  exact ⟨rfl, HB.out⟩
set_option maxRecDepth 100000 in
set_option maxHeartbeats 4000000 in
theorem lzbest_any (bs : List UInt8) (A : Nat) (W D far : Int) (F : Nat) (w : World) (h : FdAt 50 79 bs A W D F w) (hb : bs.length ≤ 90000) :
    Calls Tryz.prog 38 #[.pointer (some ⟨F, 0, none⟩), .int .i64 far] w (RetV w (.tuple #[.int .i64 (lazyBo bs A W D far), .int .i64 (lazyBp bs A W D far), .int .i64 (lazyE far)])) := by
  by_cases he : lazyE far = 0
  · obtain ⟨kf, rfl, hkf⟩ := lazyE_ok he
    have e1 : lazyBo bs A W D (kf : Int) = (leastGo (lazyC bs A W D) (kf + 1) : Nat) := by unfold lazyBo lazyB; rw [if_pos he, Int.toNat_natCast]
    have e2 : lazyBp bs A W D (kf : Int) = lazyC bs A W D (leastGo (lazyC bs A W D) (kf + 1)) := by unfold lazyBp lazyB; rw [if_pos he, Int.toNat_natCast]
    have HPr := hid (lzcosts_ok bs A W D F kf w h hb hkf)
    have HLs := hid lzleast_any
    rw [he, e1, e2]
    have HG := hid (fun k (hk : k < kf + 1) => lazyCs_get (bs := bs) (A := A) (W := W) (D := D) (n := kf + 1) hk)
    generalize lazyC bs A W D = f at *
    generalize lazyCs bs A W D (kf + 1) = L at *
    clear he e1 e2 h hb
    go_enter Tryz.func38, Tryz.ntmps38
    go_wp2_with fail
    refine HPr.out.mono ?_
    rintro e w1 ⟨v, rfl, hown, hb1⟩
    obtain ⟨av, cv, rfl⟩ := own_slice hown
    have HB1 := hid hb1
    have HC1 := hid (fun k (hk : k < kf + 1) => ((Sl.of_owns hown).cells' rfl) k (iv (f k)) (by rw [List.getElem?_map, HG.out k hk]; rfl))
    clear hown hb1 HPr
    go_wp2_with fail
    refine (HLs.out av (kf + 1) cv f w1 (by omega) HC1.out).mono ?_
    rintro e w' ⟨rfl, rfl⟩
    have hlt2 := leastGo_lt f kf
    generalize hbk : leastGo f (kf + 1) = b at *
    obtain ⟨bl, of', rfl, _, d1⟩ := HC1.out b hlt2
    unfold iv at d1
    have hbI : (b : Int) < ((kf + 1 : Nat) : Int) := by omega
    generalize hy : f b = y at *
    clear hbk hy
    go_wp2_with fail
    go_quiet (fail)
    have HB9 := hid (below_drewN HB1.out nq)
    go_wp2
    go_ret3
    exact ⟨rfl, HB9.out⟩
  · have e1 : lazyBo bs A W D far = 0 := by unfold lazyBo; rw [if_neg he]
    have e2 : lazyBp bs A W D far = 0 := by unfold lazyBp; rw [if_neg he]
    have e3 := (lazyE_bad he).1
    have HPr := hid (lzcosts_bad bs A W D F far w h he)
    rw [e1, e2, e3]
    clear he e1 e2 e3 h hb
    go_enter Tryz.func38, Tryz.ntmps38
    go_wp2_with fail
    refine HPr.out.mono ?_
    rintro e w1 ⟨rfl, hb1⟩
    go_wp2
    go_ret3
    exact ⟨rfl, hb1⟩
theorem lzparse_any (bs : List UInt8) (A : Nat) (W D : Int) (F : Nat) (w : World) (h : FdAt 50 79 bs A W D F w) (hb : bs.length ≤ 90000) :
    Calls Tryz.prog 16 #[.pointer (some ⟨F, 0, none⟩)] w fun e w' => ∃ v, e = .returned (.tuple #[v, .int .i64 0]) ∧ w'.ownsRow w.heap.size 43 3 v (seqs (lazyP bs A W D (lazyB bs A W D 2))).length ((seqs (lazyP bs A W D (lazyB bs A W D 2))).flatMap sqc) ∧ Below w.heap.size w w' := by
  have hB := lzbest_any bs A W D 2 F w h hb
  have hlt : lazyB bs A W D 2 ≤ 8 := by have := leastGo_lt (lazyC bs A W D) 2; unfold lazyB; omega
  have e0 : lazyBo bs A W D 2 = (lazyB bs A W D 2 : Nat) := by unfold lazyBo; rw [show (2 : Int) = ((2 : Nat) : Int) from rfl, lazyE_nat (by omega), if_pos rfl, Int.toNat_natCast]
  have e1 : lazyE 2 = 0 := by decide
  rw [e0, e1] at hB
  have HB := hid hB
  have HL := hid (fun W' hW' => look_any bs A W D F (lazyB bs A W D 2 : Nat) W' (h.low hW'))
  rw [lazyL_nat hlt, lazyE_nat hlt] at HL
  clear hB h hb hlt e0 e1
  generalize lazyB bs A W D 2 = of at *
  generalize lazyBp bs A W D 2 = pr at *
  go_enter Tryz.func16, Tryz.ntmps16
  go_wp2_with fail
  refine HB.out.mono ?_
  rintro e w1 ⟨rfl, hb1⟩
  have HB1 := hid hb1
  have HLc := hid (HL.out _ hb1)
  clear hb1 HB HL
  go_wp2_with fail
  refine HLc.out.mono ?_
  rintro e w2 ⟨v, rfl, hown, hb2⟩
  have HO := hid (own_le hown HB1.out.size)
  have HB2 := hid (HB1.out.trans (hb2.mono HB1.out.size))
  clear hown hb2
  go_wp2
  go_ret2
  exact ⟨_, rfl, HO.out, HB2.out⟩
end Go.Proofs.YtlgablepckmogaaGreat
namespace Go.Port
open Go.RowKit Go.Proofs.YtlgablepckmogaaGreat
theorem gp_ver {bs : List UInt8} {A : Nat} {W D : Int} (hA : A ≤ bs.length) : VerOk bs A W 0 (seqs (fromL bs A W D 0 3)) := by
  have h : fromE bs A 0 3 = 0 := by unfold fromE; rw [if_neg (by omega), if_neg (by omega)]
  have hl : fromL bs A W D 0 3 = planS (greedyA (findS bs A W D) 3) ((bs.length : Int) - A) 0 0 := by unfold fromL; rw [if_pos h]; rfl
  rw [hl]
  exact planS_ver rfl (findS_ok (B := bs) (A := A) (W := W) (D := D) (least := 3)) (fun p s h => (greedyA_take h).1) ((bs.length : Int) - A - 0).toNat 0 0 (by omega) (Int.le_refl _) (Int.le_refl _)
theorem lp_ver (bs : List UInt8) (A : Nat) (W D : Int) (far : Nat) : VerOk bs A W 0 (seqs (lazyP bs A W D far)) :=
  planS_ver rfl (lazy_ok (B := bs) (A := A) (W := W) (D := D) (far := far)) (fun p s h => (lazyA_takes h).1) ((bs.length : Int) - A).toNat 0 0 (by omega) (Int.le_refl _) (Int.le_refl _)
theorem path_ver {bs : List UInt8} {A : Nat} {Wd D : Int} (_ : A ≤ bs.length) : ∀ (l : List Sq) (p : Int), 0 ≤ p → isPath (chF bs A Wd D) ((bs.drop A).length : Nat) p l = true → VerOk bs A Wd p l := by
  intro l
  induction l with
  | nil => intro p _ _; exact trivial
  | cons s r ih =>
    intro p h0 h
    unfold isPath at h
    split at h
    · cases h
    · rename_i hb
      split at h
      · rename_i ha
        obtain ⟨y, hy, hyy⟩ := List.any_eq_true.1 ha
        simp only [Bool.and_eq_true, beq_iff_eq] at hyy
        obtain ⟨P, n, d, hP, hye, h1, h2, h4, h5, h6, h7⟩ := (steps_is hy).ex
        subst hye
        dsimp only at hyy
        have hl : (bs.drop A).length = bs.length - A := List.length_drop
        refine ⟨⟨h0, by omega, by omega, by omega, by omega, by omega, by omega, fun k hk => ?_⟩, ih _ (by omega) h⟩
        have h8 := h7 k (by omega)
        rw [show ((A : Int) + (p + s.lit)).toNat + k = A + P + k from by omega, show ((A : Int) + (p + s.lit) - s.off).toNat + k = A + P + k - d from by omega]
        exact h8
      · cases h
theorem bp_ver {bs : List UInt8} {A : Nat} {Wd D : Int} (hA : A ≤ bs.length) (hW : Wd ≤ 134217728) (hn : (bs.drop A).length ≤ 400) : VerOk bs A Wd 0 (planF (planP bs A Wd D) bs A Wd D 0) := by
  have h1 := fdf noC_ok (D := D) hA hW hn
  have hC : ∀ k, k < 4 → HistOk k (planP bs A Wd D k) := planC_ok (by have := h1.2.2; omega)
  have h := planF_is hC (bs := bs) (A := A) (Wd := Wd) (D := D) hA hW (Nat.le_trans hn (by decide)) (p := 0) (Nat.zero_le _)
  exact path_ver hA _ 0 (Int.le_refl _) h.2.2.2
end Go.Port
namespace Go.Proofs.YtlgablepckmogaaGreat
open Go.RowKit Go.Port
theorem own_plan {w : World} {base n : Nat} {e : TypeId} {a : Option Addr} {c : Nat} {xs : List Value} (h : w.ownsRow base e 3 (.slice a n c) n xs) : n ≤ c ∧ CellsAt w a xs :=
  ⟨((Sl.of_owns h).cap rfl).1, (Sl.of_owns h).cells' rfl⟩
set_option maxRecDepth 100000 in
set_option maxHeartbeats 2000000 in
theorem parses_any (bs : List UInt8) (A : Nat) (W D : Int) (F : Nat) (w : World) (k : Int) (hk : k = 0 ∨ k = 1 ∨ k = 2) (h : FdAt 50 79 bs A W D F w) (hb : bs.length ≤ 90000) (hn : (bs.drop A).length ≤ 400) :
    Calls Tryz.prog 6 #[.int .i64 k, .pointer (some ⟨F, 0, none⟩)] w fun e w' => ∃ (l : List Sq) (al : Option Addr) (cl : Nat), e = .returned (.tuple #[.slice al l.length cl, .int .i64 0]) ∧ VerOk bs A W 0 l ∧ l.length ≤ cl ∧ CellsAt w' al (l.flatMap sqc) ∧ Below w.heap.size w w' := by
  have HV1 := hid (gp_ver (W := W) (D := D) h.hA)
  have HV2 := hid (lp_ver bs A W D (lazyB bs A W D 2))
  have HV3 := hid (bp_ver (D := D) h.hA h.hW.2 hn)
  have H1 := hid (gparse_any bs A W D F w h)
  have H2 := hid (lzparse_any bs A W D F w h hb)
  have H3 := hid (bparse_ok bs A W D F w h hn)
  clear h hb hn
  rcases hk with rfl | rfl | rfl
  · clear H2 H3 HV2 HV3
    go_enter Tryz.func6, Tryz.ntmps6
    go_wp2_with (go_at_call 12; refine H1.out.mono ?_; refine Hid.out ?_)
    refine hid ?_
    rintro e w1 ⟨v, rfl, hown, hb⟩
    obtain ⟨a, c, rfl⟩ := own_slice hown
    have HO := hid hown
    have HB := hid hb
    clear hown hb H1
    dsimp only
    go_wp2
    go_ret2
    exact ⟨_, a, c, rfl, HV1.out, (own_plan HO.out).1, (own_plan HO.out).2, HB.out⟩
  · clear H1 H3 HV1 HV3
    go_enter Tryz.func6, Tryz.ntmps6
    go_wp2_with (go_at_call 16; refine H2.out.mono ?_; refine Hid.out ?_)
    refine hid ?_
    rintro e w1 ⟨v, rfl, hown, hb⟩
    obtain ⟨a, c, rfl⟩ := own_slice hown
    have HO := hid hown
    have HB := hid hb
    clear hown hb H2
    dsimp only
    go_wp2
    go_ret2
    exact ⟨_, a, c, rfl, HV2.out, (own_plan HO.out).1, (own_plan HO.out).2, HB.out⟩
  · clear H1 H2 HV1 HV2
    go_enter Tryz.func6, Tryz.ntmps6
    go_wp2_with (go_at_call 17; refine H3.out.mono ?_; refine Hid.out ?_)
    refine hid ?_
    rintro e w1 ⟨a, c, rfl, hlc, hc, hb⟩
    have HC := hid (And.intro hlc hc)
    have HB := hid hb
    clear hlc hc hb H3
    dsimp only
    go_wp2
    go_ret2
    exact ⟨_, a, c, rfl, HV3.out, HC.out.1, HC.out.2, HB.out⟩
end Go.Proofs.YtlgablepckmogaaGreat
namespace Go.Port
open Go.RowKit
/-- The bytes that a ring holds are the end of its stream, and enough of it. -/
structure RingIn (size : Nat) (st last : List UInt8) : Prop where
  le : last.length ≤ st.length
  eq : last = st.drop (st.length - last.length)
  mn : min size st.length ≤ last.length
theorem RingIn.nil (size : Nat) : RingIn size [] [] := ⟨Nat.le_refl _, rfl, by simp⟩
theorem RingIn.put {size : Nat} {st last : List UInt8} (h : RingIn size st last) (b : List UInt8) : RingIn size (st ++ b) (last ++ b) := by
  have h1 := h.le
  have h3 := h.mn
  refine ⟨by rw [List.length_append, List.length_append]; omega, ?_, by rw [List.length_append, List.length_append]; omega⟩
  rw [List.length_append, List.length_append, show st.length + b.length - (last.length + b.length) = st.length - last.length from by omega, List.drop_append_of_le_length (by omega), ← h.eq]
theorem RingIn.keep {size : Nat} {st last : List UInt8} (h : RingIn size st last) (hl : size ≤ last.length) : RingIn size st (last.drop (last.length - size)) := by
  have h1 := h.le
  have e : (last.drop (last.length - size)).length = size := by rw [List.length_drop]; omega
  refine ⟨by omega, ?_, by omega⟩
  rw [e]
  have h2 : last.drop (last.length - size) = (st.drop (st.length - last.length)).drop (last.length - size) := by rw [← h.eq]
  rw [h2, List.drop_drop]
  congr 1
  omega
/-- The last n bytes that a ring holds are the last n of its stream. -/
theorem RingIn.tail {size : Nat} {st last : List UInt8} (h : RingIn size st last) {n : Nat} (hn : n ≤ last.length) : last.drop (last.length - n) = st.drop (st.length - n) := by
  have h1 := h.le
  have h2 : last.drop (last.length - n) = (st.drop (st.length - last.length)).drop (last.length - n) := by rw [← h.eq]
  rw [h2, List.drop_drop]
  congr 1
  omega
/-- A copy of n bytes from d bytes behind the end. -/
def copyS (st : List UInt8) (d n : Nat) : List UInt8 := (List.range n).map fun i => st.getD (st.length - d + i % d) 0
theorem copyS_length (st : List UInt8) (d n : Nat) : (copyS st d n).length = n := by simp [copyS]
/-- What repeats at a distance, repeats from the first on. -/
theorem rep_mod {bs : List UInt8} {S d n : Nat} (hd : 1 ≤ d) (hS : d ≤ S) (h : ∀ j, j < n → bs[S + j]? = bs[S + j - d]?) : ∀ i, i < n → bs[S + i]? = bs[S - d + i % d]? := by
  intro i
  induction i using Nat.strongRecOn with
  | _ i ih =>
    intro hi
    rw [h i hi]
    by_cases hlt : i < d
    · rw [Nat.mod_eq_of_lt hlt]
      congr 1
      omega
    · rw [Nat.mod_eq_sub_mod (by omega), ← ih (i - d) (by omega) (by omega)]
      congr 1
      omega
theorem copyS_is {bs : List UInt8} {S d n : Nat} (hd : 1 ≤ d) (hS : d ≤ S) (hn : S + n ≤ bs.length) (h : ∀ j, j < n → bs[S + j]? = bs[S + j - d]?) : copyS (bs.take S) d n = (bs.drop S).take n := by
  apply List.ext_getElem?
  intro i
  unfold copyS
  by_cases hi : i < n
  · have hm : i % d < d := Nat.mod_lt _ (by omega)
    rw [List.getElem?_map, List.getElem?_range hi, Option.map_some, List.getElem?_take, if_pos hi, List.getElem?_drop, rep_mod hd hS h i hi, List.length_take, Nat.min_eq_left (by omega), List.getD_eq_getElem?_getD, List.getElem?_take, if_pos (by omega), List.getElem?_eq_getElem (by omega)]
    rfl
  · rw [List.getElem?_eq_none (by simp; omega), List.getElem?_take, if_neg hi]
end Go.Port
