/-
  A finder's depth, for a seat whose text Ch leaves it out.
  Plain arithmetic of layer 5: the fixed-point logarithm, the histogram of bytes, its cost. No program in sight.
  bits.Len as a floor of the binary logarithm.
  The walks of layer 28, fourth part: the floor of the binary logarithm, in the program and in the reference.
  The walks of layer 28, eighth part: the cost of a plan. The walks of layer 28, ninth part: the reference's cost of a plan.
-/
import Derived.Test.YtlgablepckmogaaGreatQ09
import Derived.Test.YtlgablepckmogaaGreatQ06
import Derived.Test.YtlgablepckmogaaGreatShelf
import Derived.Test.YtlgablepckmogaaGreatQ08
import Derived.Test.YtlgablepckmogaaGreatQ07
import Derived.WalkKit
namespace Go.Proofs.YtlgablepckmogaaGreat
open Go.RowKit Go.Port
theorem cdepth_any (bs : List UInt8) (A : Nat) (W D : Int) (F : Nat) (w : World) (h : FdAt 50 79 bs A W D F w) :
    Calls Tryz.prog 80 #[.pointer (some ⟨F, 0, none⟩)] w fun e w' => e = .returned (.int .i64 D) ∧ w = w' := by
  have HN := hid (cnone_any bs A W D F w h)
  obtain ⟨X, va, ca, h1, h2, h3, h4, h5⟩ := h.ex
  have c4 := h1.cell (k := 4) rfl
  clear h h1 h2 h3 h4 h5
  go_enter Tryz.func80, Tryz.ntmps80
  go_wp2_with (go_at_call 67; refine HN.out.mono ?_; rintro e w' ⟨rfl, rfl⟩)
  go_ret
  exact ⟨rfl, rfl⟩
end Go.Proofs.YtlgablepckmogaaGreat
namespace Go.Port
/-- The fixed-point logarithm as the program computes it. -/
def logN (n : Nat) : Nat :=
  if 8 ≤ Nat.log2 n then Nat.log2 n * 256 + (n - 2 ^ Nat.log2 n) / 2 ^ (Nat.log2 n - 8) else Nat.log2 n * 256 + (n - 2 ^ Nat.log2 n) * 2 ^ (8 - Nat.log2 n)
theorem log2_lo {n : Nat} (h : n ≠ 0) : 2 ^ Nat.log2 n ≤ n := Nat.log2_self_le h
theorem log2_hi (n : Nat) : n < 2 ^ (Nat.log2 n + 1) := Nat.lt_log2_self
/-- .. and in one formula. -/
theorem logN_eq (n : Nat) : logN n = Nat.log2 n * 256 + (n - 2 ^ Nat.log2 n) * 256 / 2 ^ Nat.log2 n := by
  unfold logN
  generalize hk : Nat.log2 n = k
  split
  · rename_i h8
    have e : 2 ^ k = 2 ^ (k - 8) * 256 := by
      rw [show (256 : Nat) = 2 ^ 8 from rfl, ← Nat.pow_add, Nat.sub_add_cancel h8]
    congr 1
    generalize n - 2 ^ k = m
    rw [e, Nat.mul_div_mul_right _ _ (by decide)]
  · rename_i h8
    have e : 256 = 2 ^ k * 2 ^ (8 - k) := by
      rw [← Nat.pow_add, show k + (8 - k) = 8 by omega]
    congr 1
    generalize n - 2 ^ k = m
    rw [e, ← Nat.mul_assoc, Nat.mul_comm m (2 ^ k), Nat.mul_assoc, Nat.mul_div_cancel_left _ (Nat.two_pow_pos k)]
theorem logN_bounds (n : Nat) (h : n ≠ 0) : Nat.log2 n * 256 ≤ logN n ∧ logN n < Nat.log2 n * 256 + 256 := by
  rw [logN_eq n]
  refine ⟨Nat.le_add_right _ _, Nat.add_lt_add_left ?_ _⟩
  rw [Nat.div_lt_iff_lt_mul (Nat.two_pow_pos _)]
  have h1 := log2_lo h
  have h2 := log2_hi n
  rw [Nat.pow_succ] at h2
  generalize 2 ^ Nat.log2 n = p at *
  omega
theorem logN_mono {a b : Nat} (ha : a ≠ 0) (h : a ≤ b) : logN a ≤ logN b := by
  have hb : b ≠ 0 := by omega
  have h1 := logN_bounds a ha
  have h2 := logN_bounds b hb
  have hk : Nat.log2 a ≤ Nat.log2 b := by
    rw [Nat.le_log2 hb]
    exact Nat.le_trans (log2_lo ha) h
  rcases Nat.lt_or_ge (Nat.log2 a) (Nat.log2 b) with hlt | hge
  · have : (Nat.log2 a + 1) * 256 ≤ Nat.log2 b * 256 := Nat.mul_le_mul_right _ hlt
    omega
  · have e : Nat.log2 a = Nat.log2 b := by omega
    rw [logN_eq a, logN_eq b, e]
    refine Nat.add_le_add_left (Nat.div_le_div_right (Nat.mul_le_mul_right _ ?_)) _
    omega
/-- .. on ints. -/
def lg (x : Int) : Int := (logN x.toNat : Nat)
theorem lg_bounds {x : Int} (h0 : 0 < x) (h1 : x < 4611686018427387904) : 0 ≤ lg x ∧ lg x < 16384 := by
  have hn : x.toNat ≠ 0 := by omega
  have hb := logN_bounds x.toNat hn
  have hk : Nat.log2 x.toNat < 62 := by
    rw [Nat.log2_lt hn]
    show x.toNat < 4611686018427387904
    omega
  unfold lg
  omega
theorem lg_mono {a b : Int} (ha : 0 < a) (h : a ≤ b) : lg a ≤ lg b := by
  unfold lg
  have := logN_mono (a := a.toNat) (b := b.toNat) (by omega) (by omega)
  omega
/-- A count that a histogram may hold. -/
def Cnt (c : Int) : Prop := 0 ≤ c ∧ c ≤ 2147483648
theorem sum_bounds {l : List Int} (h : ∀ c ∈ l, Cnt c) : 0 ≤ l.sum ∧ l.sum ≤ 2147483648 * l.length := by
  induction l with
  | nil => simp
  | cons c l ih =>
    have h1 := h c (by simp)
    have h2 := ih (fun c hc => h c (by simp [hc]))
    unfold Cnt at h1
    simp only [List.sum_cons, List.length_cons]
    omega
def bump (h : List Int) (c : UInt8) : List Int := h.set c.toNat (min 2147483648 (h.getD c.toNat 0 + 1))
def bumps (h : List Int) (bs : List UInt8) : List Int := bs.foldl bump h
def zeros : List Int := List.replicate 256 0
def histS (bs : List UInt8) : List Int := bumps zeros bs
theorem bump_length (h : List Int) (c : UInt8) : (bump h c).length = h.length := by simp [bump]
theorem bumps_length (h : List Int) (bs : List UInt8) : (bumps h bs).length = h.length := by
  induction bs generalizing h with
  | nil => rfl
  | cons c bs ih => rw [bumps, List.foldl_cons]; exact (ih _).trans (bump_length h c)
theorem zeros_length : zeros.length = 256 := by unfold zeros; rw [List.length_replicate]
theorem histS_length (bs : List UInt8) : (histS bs).length = 256 := (bumps_length _ _).trans zeros_length
theorem bumps_snoc (h : List Int) (a : List UInt8) (c : UInt8) : bumps h (a ++ [c]) = bump (bumps h a) c := by simp [bumps, List.foldl_append]
theorem bump_cnt {h : List Int} (hh : ∀ c ∈ h, Cnt c) (x : UInt8) : ∀ c ∈ bump h x, Cnt c := by
  intro c hc
  rcases List.mem_or_eq_of_mem_set hc with hc | rfl
  · exact hh c hc
  · have h0 : 0 ≤ h.getD x.toNat 0 := by
      rw [List.getD_eq_getElem?_getD]
      cases he : h[x.toNat]? with
      | none => simp
      | some v => exact (hh v (List.mem_of_getElem? he)).1
    unfold Cnt
    omega
theorem bumps_cnt {h : List Int} (hh : ∀ c ∈ h, Cnt c) (bs : List UInt8) : ∀ c ∈ bumps h bs, Cnt c := by
  induction bs generalizing h with
  | nil => exact hh
  | cons x bs ih => exact ih (bump_cnt hh x)
theorem zeros_cnt : ∀ c ∈ zeros, Cnt c := by
  intro c hc
  have := List.eq_of_mem_replicate hc
  subst this
  unfold Cnt
  omega
theorem histS_cnt (bs : List UInt8) : ∀ c ∈ histS bs, Cnt c := bumps_cnt zeros_cnt bs
end Go.Port
namespace Go.Port
open Go.RowKit
theorem bitLen_log (n : Nat) (h : n ≠ 0) (h1 : n < 2 ^ 64) : Lib.bitLen n = Nat.log2 n + 1 := by
  have := Lib.bitLen_shift (Nat.log2 n) n (log2_lo h) h1
  rw [this]
  have h2 := log2_hi n
  rw [Nat.pow_succ] at h2
  have h3 := log2_lo h
  have e : n / 2 ^ Nat.log2 n = 1 := by
    have hp := Nat.two_pow_pos (Nat.log2 n)
    rw [Nat.div_eq_iff hp]
    omega
  rw [e]
  rfl
theorem log2_small {n : Int} (h : n < 2) : Nat.log2 n.toNat = 0 := by
  have : n.toNat = 0 ∨ n.toNat = 1 := by omega
  rcases this with e | e <;> rw [e] <;> rfl
theorem log2_63 {n : Int} (h : n ≤ 9223372036854775807) : Nat.log2 n.toNat < 63 := by
  by_cases h0 : n.toNat = 0
  · rw [h0]; decide
  · rw [Nat.log2_lt h0]
    show n.toNat < 9223372036854775808
    omega
end Go.Port
namespace Go.Proofs.YtlgablepckmogaaGreat
open Go.RowKit Go.Port
theorem len_log0 (n : Int) (w : World) (h0 : 0 ≤ n) (h1 : n ≤ 9223372036854775807) :
    Calls Tryz.prog 115 #[.int .u64 n] w fun e w' => e = .returned (.int .i64 (if n = 0 then 0 else (Nat.log2 n.toNat : Nat) + 1 : Int)) ∧ w = w' := by
  refine (Tryz.bits_Len n w (by omega) (by omega)).mono ?_
  rintro e w' ⟨he, hw⟩
  refine ⟨?_, hw.symm⟩
  rw [he]
  by_cases hn : n = 0
  · subst hn
    rfl
  · rw [if_neg hn, bitLen_log n.toNat (by omega) (by omega)]
    rfl
end Go.Proofs.YtlgablepckmogaaGreat
namespace Go.Proofs.YtlgablepckmogaaGreat
open Go.RowKit Go.Port
set_option maxHeartbeats 800000 in
theorem mlog_any (n : Int) (w : World) (h0 : -9223372036854775808 ≤ n) (h1 : n ≤ 9223372036854775807) :
    Calls Tryz.prog 100 #[.int .i64 n] w fun e w' => e = .returned (.int .i64 (logI n)) ∧ w = w' := by
  have hl := log2_63 h1
  unfold logI
  have HL := hid (len_log0 (max 0 n) w (by omega) (by omega))
  have hr : ∃ r : Int, (if max 0 n = 0 then (0 : Int) else (Nat.log2 (max 0 n).toNat : Nat) + 1) = r ∧ 0 ≤ r ∧ r ≤ 64 ∧ max 0 (r - 1) = (Nat.log2 n.toNat : Nat) := by
    by_cases hn : 0 < n
    · rw [if_neg (by omega), show max 0 n = n from by omega]
      exact ⟨_, rfl, by omega, by omega, by omega⟩
    · rw [if_pos (by omega), log2_small (by omega)]
      exact ⟨0, rfl, by omega, by omega, by decide⟩
  obtain ⟨r, e, hr0, hr1, hr2⟩ := hr
  rw [e] at HL
  clear e hl
  have HR := hid hr2
  clear hr2
  have hw2 : IntKind.i64.wrap (r - 1) = r - 1 := by rw [IntKind.wrap_i64]; omega
  go_enter Tryz.func100, Tryz.ntmps100
  go_wp2_with fail
  refine HL.out.mono ?_
  rintro e w' ⟨rfl, rfl⟩
  go_wp2
  go_ret
  exact ⟨ret_i HR.out, rfl⟩
end Go.Proofs.YtlgablepckmogaaGreat
namespace Go.Port
open Go.RowKit
theorem logI_le {n : Int} (h : n ≤ 9223372036854775807) : 0 ≤ logI n ∧ logI n ≤ 62 := by
  have := log2_63 h
  unfold logI
  omega
end Go.Port
namespace Go.Proofs.YtlgablepckmogaaGreat
open Go.RowKit Go.Port
theorem prices_any (w : World) : Calls Tryz.prog 99 #[] w (RetV w (.agg #[.int .i64 8, .int .i64 12])) := by
  have HP := hid (Blk.new w [.int .i64 8, .int .i64 12] 48)
  have HB := hid (below_new w (.cells #[.int .i64 8, .int .i64 12] 48))
  go_enter Tryz.func99, Tryz.ntmps99
  go_wp2
  have r0 := HP.out.cell (k := 0) rfl
  have r1 := HP.out.cell (k := 1) rfl
  have hb9 := HB.out
  clear HP HB
  generalize w.alloc (.cells #[.int .i64 8, .int .i64 12] 48) = W9 at *
  (try simp only [Exit.inBlock, Exit.then])
  refine bodyPost_ret (v := .agg #[.int .i64 8, .int .i64 12]) (by simp [results, Tryz.results99, go_sem, r0, r1]) rfl ?_
  exact ⟨rfl, hb9⟩
set_option maxRecDepth 100000 in
set_option maxHeartbeats 4000000 in
theorem cost_any (a : Option Addr) (c : Nat) (size : Int) (l : List Sq) (w : World) (hs : -9223372036854775808 ≤ size) (hs2 : size ≤ 1099511627776) (hl : l.length ≤ 100000) (hin : ∀ s ∈ l, InSq s)
    (hc : ∀ j u, (l.flatMap sqc)[j]? = some u → ∃ bl off, a = some ⟨bl, off, none⟩ ∧ bl < w.heap.size ∧ w.cell? ⟨bl, off + j, none⟩ = some u) :
    Calls Tryz.prog 78 #[.int .i64 size, .slice a l.length c] w (RetV w (costR (costM size l))) := by
  have HC := hid (fun W (hW : Below w.heap.size w W) j u (hu : (l.flatMap sqc)[j]? = some u) => (show ∃ bl off, a = some ⟨bl, off, none⟩ ∧ bl < W.heap.size ∧ W.cell? ⟨bl, off + j, none⟩ = some u from by
    obtain ⟨bl, off, h1, h2, h3⟩ := hc j u hu
    exact ⟨bl, off, h1, Nat.lt_of_lt_of_le h2 hW.size, (hW.cell (p := ⟨bl, off + j, none⟩) h2).trans h3⟩))
  clear hc
  have HIN := hid hin
  clear hin
  have HP := hid (fun W => prices_any W)
  have HML := hid mlog_any
  generalize hR : costM size l = R
  have HR := hid hR
  clear hR
  go_enter Tryz.func78, Tryz.ntmps78
  go_wp2_with fail
  refine wp_scope_jumps 0 (fun a' w' => R = none ∧ (∃ x0 x1 x2 x3 x4 x6 x7 x8 x9 x10 x11 x12 x13 x14 x15 x16 x17 x18 x19 x20 x21 x22 x23 x24 x25 x26 x27 x28 x29 x30 x31 x32 x33 x34 x35 x36 x37 x38 x39 x40 x41 x42 x43 x44 x45 x46 x47 x48 x49 x50 x51 x52 x53 x54 x55 x56 x57 x58 x59 x60 x61 x62 x63 x64 x65 x66 x67 x68 x69 x70 x71 x72 x73 x74 x75 : Value, a' = { tmps := #[x0, x1, x2, x3, x4, .int .i64 15, x6, x7, x8, x9, x10, x11, x12, x13, x14, x15, x16, x17, x18, x19, x20, x21, x22, x23, x24, x25, x26, x27, x28, x29, x30, x31, x32, x33, x34, x35, x36, x37, x38, x39, x40, x41, x42, x43, x44, x45, x46, x47, x48, x49, x50, x51, x52, x53, x54, x55, x56, x57, x58, x59, x60, x61, x62, x63, x64, x65, x66, x67, x68, x69, x70, x71, x72, x73, x74, x75], defers := [] } ∧ Below w.heap.size w w')) (fun _ _ => 0) rfl ?first ?pass
  case pass =>
    rintro a1 w1 ⟨rfl, x0, x1, x2, x3, x4, x6, x7, x8, x9, x10, x11, x12, x13, x14, x15, x16, x17, x18, x19, x20, x21, x22, x23, x24, x25, x26, x27, x28, x29, x30, x31, x32, x33, x34, x35, x36, x37, x38, x39, x40, x41, x42, x43, x44, x45, x46, x47, x48, x49, x50, x51, x52, x53, x54, x55, x56, x57, x58, x59, x60, x61, x62, x63, x64, x65, x66, x67, x68, x69, x70, x71, x72, x73, x74, x75, rfl, hb⟩
    have HB := hid hb
    clear hb
    go_wp2
    simp only [Exit.jump]
    refine bodyPost_ret (v := .tuple #[.int .i64 0, .int .i64 15]) (by simp [results, Tryz.results78, go_sem]) rfl ?_
    exact ⟨rfl, HB.out⟩
  case first =>
    go_wp2_with fail
    refine (HP.out _).mono ?_
    rintro e w1 ⟨rfl, hb1⟩
    have HB1 := hid ((hb1.alloc hb1.size (.cells #[.int .i64 8, .int .i64 12] 48)))
    have HB0 := hid hb1
    have HPr := hid (Blk.new w1 [.int .i64 8, .int .i64 12] 48)
    have hw1 : w.heap.size ≤ w1.heap.size := hb1.size
    clear hb1
    by_cases h0 : size < 0
    · have HR2 := hid (show R = none from by rw [← HR.out]; unfold costM; rw [if_pos h0])
      go_wp2
      refine wp_goto ?_
      refine ⟨rfl, HR2.out, ?_⟩
      repeat apply Exists.intro
      exact ⟨rfl, HB1.out⟩
    · have HR2 := hid (show costGoM size (8 * size) l = R from by rw [← HR.out]; unfold costM; rw [if_neg h0])
      have hw8 : IntKind.i64.wrap (8 * size) = 8 * size := by rw [IntKind.wrap_i64]; omega
      have c80 := HPr.out.cell (k := 0) rfl
      have c81 := HPr.out.cell (k := 1) rfl
      go_wp2
      clear c80 c81
      go_loopw [4, 6, 20] (fun v4 v6 i wr => ∃ (k : Nat) (left price : Int), k ≤ l.length ∧ v4 = .int .i64 price ∧ v6 = .int .i64 left ∧ i = .int .i64 k ∧ Hid (costGoM left price (l.drop k) = R) ∧ (0 ≤ left ∧ left ≤ 1099511627776 ∧ 8 * left ≤ price ∧ price ≤ 8796093022208 + 75 * k) ∧ Blk wr w1.heap.size [.int .i64 8, .int .i64 12] 48 ∧ Below w.heap.size w wr) (fun _ _ i _ => l.length - (intOf i).toNat)
      case atStart => exact ⟨0, size, 8 * size, Nat.zero_le _, rfl, rfl, rfl, HR2.out, ⟨by omega, by omega, by omega, by omega⟩, HPr.out, HB1.out⟩
      case round =>
        obtain ⟨k, left, price, hk, rfl, rfl, rfl, HG, ⟨hl0, hl1, hp0, hp1⟩, hPr, hB⟩ := hrel
        have HPk := hid hPr
        have HBk := hid hB
        have d0 := hPr.cell (k := 0) rfl
        have d1 := hPr.cell (k := 1) rfl
        have hltw := hPr.lt
        clear hPr hB
        by_cases hlt : k < l.length
        · obtain ⟨s, hx⟩ : ∃ s, l[k]? = some s := ⟨l[k], by simp [hlt]⟩
          have hdr : l.drop k = s :: l.drop (k + 1) := by
            obtain ⟨h1, h2⟩ := List.getElem?_eq_some_iff.1 hx
            rw [List.drop_eq_getElem_cons h1, h2]
          have hG := HG.out
          rw [hdr] at hG
          unfold costGoM at hG
          obtain ⟨bl, off, rfl, hb0, c0⟩ := HC.out wr HBk.out (k * 3 + 0) (.int .i64 s.lit) (by rw [sqc_get hx 0 (by omega)]; rfl)
          obtain ⟨bl1, off1, e1, _, c1⟩ := HC.out wr HBk.out (k * 3 + 1) (.int .i64 s.len) (by rw [sqc_get hx 1 (by omega)]; rfl)
          cases e1
          obtain ⟨bl2, off2, e2, _, c2⟩ := HC.out wr HBk.out (k * 3 + 2) (.int .i64 s.off) (by rw [sqc_get hx 2 (by omega)]; rfl)
          cases e2
          rw [Nat.add_zero] at c0
          rw [← Nat.add_assoc] at c1 c2
          have hsq := HIN.out s (List.mem_of_getElem? hx)
          obtain ⟨sl, sn, so⟩ := s
          obtain ⟨⟨i1, i2⟩, ⟨i3, i4⟩, ⟨i5, i6⟩⟩ := hsq
          dsimp only at hG c0 c1 c2 i1 i2 i3 i4 i5 i6
          have HBx := hid (HBk.out.alloc HBk.out.size (.cells #[.int .i64 sl, .int .i64 sn, .int .i64 so] 43))
          have HPx := hid (HPk.out.alloc (.cells #[.int .i64 sl, .int .i64 sn, .int .i64 so] 43))
          have hkI : (k : Int) < (l.length : Int) := by omega
          clear hdr hx
          by_cases q1 : sl < 0
          · have hbad : seqBad left ⟨sl, sn, so⟩ = true := by unfold seqBad; simp [q1]
            rw [if_pos hbad] at hG
            have HR3 := hid hG.symm
            clear hbad hG
            go_wp2
            refine wp_goto ?_
            refine ⟨rfl, HR3.out, ?_⟩
            repeat apply Exists.intro
            exact ⟨rfl, HBx.out⟩
          by_cases q2 : sn < 3
          · have hbad : seqBad left ⟨sl, sn, so⟩ = true := by unfold seqBad; simp [q2]
            rw [if_pos hbad] at hG
            have HR3 := hid hG.symm
            clear hbad hG
            go_wp2
            refine wp_goto ?_
            refine ⟨rfl, HR3.out, ?_⟩
            repeat apply Exists.intro
            exact ⟨rfl, HBx.out⟩
          by_cases q3 : so < 1
          · have hbad : seqBad left ⟨sl, sn, so⟩ = true := by unfold seqBad; simp [q3]
            rw [if_pos hbad] at hG
            have HR3 := hid hG.symm
            clear hbad hG
            go_wp2
            refine wp_goto ?_
            refine ⟨rfl, HR3.out, ?_⟩
            repeat apply Exists.intro
            exact ⟨rfl, HBx.out⟩
          by_cases q4 : left < sl
          · have hbad : seqBad left ⟨sl, sn, so⟩ = true := by unfold seqBad; simp [q4]
            rw [if_pos hbad] at hG
            have HR3 := hid hG.symm
            clear hbad hG
            go_wp2
            refine wp_goto ?_
            refine ⟨rfl, HR3.out, ?_⟩
            repeat apply Exists.intro
            exact ⟨rfl, HBx.out⟩
          by_cases q5 : left - sl < sn
          · have hbad : seqBad left ⟨sl, sn, so⟩ = true := by unfold seqBad; simp [q5]
            rw [if_pos hbad] at hG
            have HR3 := hid hG.symm
            clear hbad hG
            have hw5 : IntKind.i64.wrap (left - sl) = left - sl := by rw [IntKind.wrap_i64]; omega
            go_wp2
            refine wp_goto ?_
            refine ⟨rfl, HR3.out, ?_⟩
            repeat apply Exists.intro
            exact ⟨rfl, HBx.out⟩
          have hgood : seqBad left ⟨sl, sn, so⟩ = false := by unfold seqBad; simp [q1, q2, q3, q4, q5]
          rw [hgood] at hG
          simp only [Bool.false_eq_true, if_false] at hG
          have HG2 := hid hG
          clear hG hgood
          have hLL := logI_le i6
          have HLog := hid (fun W => HML.out so W i5 i6)
          generalize logI so = L at *
          obtain ⟨hL0, hL1⟩ := hLL
          have hw5 : IntKind.i64.wrap (left - sl) = left - sl := by rw [IntKind.wrap_i64]; omega
          have hw6 : IntKind.i64.wrap (sl + sn) = sl + sn := by rw [IntKind.wrap_i64]; omega
          have hw7 : IntKind.i64.wrap (left - (sl + sn)) = left - (sl + sn) := by rw [IntKind.wrap_i64]; omega
          have hw8 : IntKind.i64.wrap (8 * sn) = 8 * sn := by rw [IntKind.wrap_i64]; omega
          have hw9 : IntKind.i64.wrap (12 + L) = 12 + L := by rw [IntKind.wrap_i64]; omega
          have hw10 : IntKind.i64.wrap (12 + L - 8 * sn) = 12 + L - 8 * sn := by rw [IntKind.wrap_i64]; omega
          have hw11 : IntKind.i64.wrap (price + (12 + L - 8 * sn)) = price + (12 + L - 8 * sn) := by rw [IntKind.wrap_i64]; omega
          go_wp2
          go_quiet ((go_at_call 100; first | exact quiet_left (HLog.out _) | exact quiet_left2 (HLog.out _)))
          go_wp2
          go_roundw
          case rel => exact ⟨k + 1, left - (sl + sn), price + (12 + L - 8 * sn), hlt, rfl, rfl, by go_num, HG2.out, ⟨by omega, by omega, by omega, by omega⟩, HPx.out, below_drewN HBx.out _⟩
          case measure => simp [intOf]; omega
        · obtain rfl : k = l.length := by omega
          have hG := HG.out
          rw [List.drop_of_length_le (Nat.le_refl _)] at hG
          have HR3 := hid (show R = some price from hG.symm)
          clear hG
          go_wp2
          (try simp only [Exit.inBlock, Exit.then])
          refine bodyPost_ret (v := .tuple #[.int .i64 price, .int .i64 0]) (by simp [results, Tryz.results78, go_sem]) rfl ?_
          exact ⟨by rw [HR3.out]; rfl, HBk.out⟩
end Go.Proofs.YtlgablepckmogaaGreat
namespace Go.Proofs.YtlgablepckmogaaGreat
open Go.RowKit Go.Port
end Go.Proofs.YtlgablepckmogaaGreat
