/-
  The walks of the split's small functions: what is held, the rises, equal cuts; and their references.
-/
import Derived.Test.YtadnhjloeaddnaaRef5
import Derived.Test.YtadnhjloeaddnaaSplitPlain
namespace Go.Port
/-- A length kept within 1 .. 131072. -/
def heldI (n : Int) : Int := max 1 (min n 131072)
theorem heldI_bounds (n : Int) : 1 ≤ heldI n ∧ heldI n ≤ 131072 := by unfold heldI; omega

/-- The number of equal cuts and the cuts. -/
def eqN (size h : Int) : Nat := if size ≤ 0 then 0 else ((size - 1) / h).toNat
def eqL (h : Int) (k : Nat) : List Int := (List.range k).map fun (j : Nat) => ((j : Int) + 1) * h
def eqCuts (size h : Int) : List Int := if 65536 < eqN size h then [] else eqL h (eqN size h)

theorem eqL_succ (h : Int) (k : Nat) : eqL h (k + 1) = eqL h k ++ [((k : Int) + 1) * h] := by
  simp [eqL, List.range_succ]
theorem eq_step (h : Int) (k : Nat) : ((k : Int) + 1) * h + h = (((k + 1 : Nat) : Int) + 1) * h := by
  have : ((k + 1 : Nat) : Int) + 1 = ((k : Int) + 1) + 1 := by omega
  rw [this, Int.add_mul ((k : Int) + 1) 1 h, Int.one_mul]
theorem eqL_length (h : Int) (k : Nat) : (eqL h k).length = k := by simp [eqL]

theorem eqN_lt {size h : Int} (hh : 1 ≤ h) (k : Nat) : ((k : Int) + 1) * h < size ↔ k < eqN size h := by
  unfold eqN
  split
  · rename_i hs
    have : 0 ≤ ((k : Int) + 1) * h := Int.mul_nonneg (by omega) (by omega)
    omega
  · rename_i hs
    have h1 : (k : Int) + 1 ≤ (size - 1) / h ↔ ((k : Int) + 1) * h ≤ size - 1 := Int.le_ediv_iff_mul_le (by omega)
    have h2 : 0 ≤ (size - 1) / h := Int.ediv_nonneg (by omega) (by omega)
    omega

theorem eqN_big {size h : Int} (hs : 0 < size) (hh : 1 ≤ h) : 65536 < eqN size h ↔ 65536 < (size - 1) / h := by
  unfold eqN
  rw [if_neg (by omega)]
  have h2 : 0 ≤ (size - 1) / h := Int.ediv_nonneg (by omega) (by omega)
  omega

theorem eqN_size {size h : Int} (hh : 1 ≤ h) (hh1 : h ≤ 131072) (hb : ¬ 65536 < eqN size h) : size ≤ 8590065664 := by
  rcases Int.lt_or_le size 1 with hs | hs
  · omega
  · have h1 : ¬ 65536 < (size - 1) / h := fun hx => hb ((eqN_big (by omega) hh).2 hx)
    have h2 : (size - 1) / h < 65537 := by omega
    have h3 := (Int.ediv_lt_iff_lt_mul (by omega)).1 h2
    have h4 : 65537 * h ≤ 65537 * 131072 := Int.mul_le_mul_of_nonneg_left hh1 (by omega)
    omega
end Go.Port
namespace Go.Proofs.Ytadnhjloeaddnaa
open Go.RowKit Go.Port

theorem held_any (n : Int) (w : World) : Calls Try.prog 32 #[.int .i64 n] w fun e w' => e = .returned (.int .i64 (heldI n)) ∧ w = w' := by
  go_enter Try.func32, Try.ntmps32
  go_wp2
  go_ret
  exact ⟨rfl, rfl⟩
theorem most_any (n : Int) (w : World) : Calls Try.prog 16 #[.int .i64 n] w fun e w' => e = .returned (.int .i64 (heldI n)) ∧ w = w' := by
  go_enter Try.func16, Try.ntmps16
  go_wp2
  go_ret
  exact ⟨rfl, rfl⟩
theorem num_any (n : Int) (w : World) : Calls Try.prog 22 #[.int .i64 n] w fun e w' => e = .returned (.int .i64 n) ∧ w = w' := by
  go_enter Try.func22, Try.ntmps22
  go_wp2
  go_ret
  exact ⟨rfl, rfl⟩

theorem must_yes (w : World) : Calls Try.prog 35 #[.bool true] w fun e w' => e = .returned (.tuple #[]) ∧ w = w' := by
  go_enter Try.func35, Try.ntmps35
  go_wp2
  go_end0
  exact ⟨rfl, rfl⟩

theorem must_no (w : World) : Calls Try.prog 35 #[.bool false] w fun e w' => e = .panicked [{ v := .iface 40 (.int .i64 2), recovered := false }] ∧ w = w' := by
  go_enter Try.func35, Try.ntmps35
  go_wp2
  exact ⟨rfl, rfl, rfl⟩

set_option maxRecDepth 100000 in
set_option maxHeartbeats 800000 in
theorem rises_ok (size m : Int) (a : Option Addr) (n c : Nat) (cuts : List Int) (w : World) (hs0 : 0 ≤ size) (hs1 : size ≤ 9223372036854775807) (hn : cuts.length = n) (hnm : n ≤ maxLen)
    (hc : ∀ j u, (cuts.map iv)[j]? = some u → ∃ b off, a = some ⟨b, off, none⟩ ∧ b < w.heap.size ∧ w.cell? ⟨b, off + j, none⟩ = some u) (hm : risesGo size cuts 0 0 = some m) :
    Calls Try.prog 36 #[.int .i64 size, .slice a n c] w fun e w' => e = .returned (.int .i64 m) ∧ w = w' := by
  have HC := hid hc
  have HM := hid hm
  clear hc hm
  unfold maxLen at hnm
  go_enter Try.func36, Try.ntmps36
  go_wp2
  go_loop [4, 5, 10] (fun l t i => ∃ (k : Nat) (L T : Int), k ≤ n ∧ i = .int .i64 k ∧ l = .int .i64 L ∧ t = .int .i64 T ∧ 0 ≤ T ∧ T ≤ size ∧ 0 ≤ L ∧ L ≤ size ∧ Hid (risesGo size (cuts.drop k) L T = some m))
     (fun _ _ i => n - (intOf i).toNat)
  case atStart => exact ⟨0, 0, 0, Nat.zero_le _, rfl, rfl, rfl, by omega, by omega, by omega, by omega, HM⟩
  case round =>
    obtain ⟨k, L, T, hk, rfl, rfl, rfl, hT0, hT1, hL0, hL1, HR⟩ := hrel
    by_cases hlt : k < n
    · obtain ⟨x, hx⟩ : ∃ x, cuts[k]? = some x := ⟨cuts[k]'(by omega), by simp [hn, hlt]⟩
      obtain ⟨b, off, rfl, _, hcell⟩ := HC.out k (iv x) (by simp [hx])
      have hd : cuts.drop k = x :: cuts.drop (k + 1) := by
        rw [List.drop_eq_getElem_cons (by omega)]; congr 1; simpa [hn, hlt] using hx
      have h2 := HR.out
      rw [hd, risesGo] at h2
      split at h2
      · rename_i hxx
        obtain ⟨hx0, hx1⟩ := hxx
        have H2 := hid h2
        clear h2 hd hx
        unfold iv at hcell
        go_wp2_with (go_at_call 35; refine (must_yes _).mono ?_; rintro e w' ⟨rfl, rfl⟩)
        go_round
        case rel => exact ⟨k + 1, max L (x - T), x, by omega, by go_num, by simp only [Int.max_def], rfl, by omega, by omega, by omega, by omega, H2⟩
        case measure => simp [intOf]; omega
      · cases h2
    · obtain rfl : k = n := by omega
      have h2 := HR.out
      rw [List.drop_of_length_le (by omega), risesGo, Option.some.injEq] at h2
      have H2 := hid h2
      clear h2
      go_wp2
      go_ret
      exact ⟨ret_i (by rw [← H2.out]), rfl⟩

set_option maxRecDepth 100000 in
set_option maxHeartbeats 800000 in
theorem rises_no (size : Int) (a : Option Addr) (n c : Nat) (cuts : List Int) (w : World) (hs0 : 0 ≤ size) (hs1 : size ≤ 9223372036854775807) (hn : cuts.length = n) (hnm : n ≤ maxLen)
    (hc : ∀ j u, (cuts.map iv)[j]? = some u → ∃ b off, a = some ⟨b, off, none⟩ ∧ b < w.heap.size ∧ w.cell? ⟨b, off + j, none⟩ = some u) (hm : risesGo size cuts 0 0 = none) :
    Calls Try.prog 36 #[.int .i64 size, .slice a n c] w fun e w' => e = .panicked [{ v := .iface 40 (.int .i64 2), recovered := false }] ∧ w = w' := by
  have HC := hid hc
  have HM := hid hm
  clear hc hm
  unfold maxLen at hnm
  go_enter Try.func36, Try.ntmps36
  go_wp2
  go_loop [4, 5, 10] (fun l t i => ∃ (k : Nat) (L T : Int), k ≤ n ∧ i = .int .i64 k ∧ l = .int .i64 L ∧ t = .int .i64 T ∧ 0 ≤ T ∧ T ≤ size ∧ 0 ≤ L ∧ L ≤ size ∧ Hid (risesGo size (cuts.drop k) L T = none))
     (fun _ _ i => n - (intOf i).toNat)
  case atStart => exact ⟨0, 0, 0, Nat.zero_le _, rfl, rfl, rfl, by omega, by omega, by omega, by omega, HM⟩
  case round =>
    obtain ⟨k, L, T, hk, rfl, rfl, rfl, hT0, hT1, hL0, hL1, HR⟩ := hrel
    by_cases hlt : k < n
    · obtain ⟨x, hx⟩ : ∃ x, cuts[k]? = some x := ⟨cuts[k]'(by omega), by simp [hn, hlt]⟩
      obtain ⟨b, off, rfl, _, hcell⟩ := HC.out k (iv x) (by simp [hx])
      have hd : cuts.drop k = x :: cuts.drop (k + 1) := by
        rw [List.drop_eq_getElem_cons (by omega)]; congr 1; simpa [hn, hlt] using hx
      have h2 := HR.out
      rw [hd, risesGo] at h2
      clear hx hd
      unfold iv at hcell
      split at h2
      · rename_i hxx
        obtain ⟨hx0, hx1⟩ := hxx
        have H2 := hid h2
        clear h2
        go_wp2_with (go_at_call 35; refine (must_yes _).mono ?_; rintro e w' ⟨rfl, rfl⟩)
        go_round
        case rel => exact ⟨k + 1, max L (x - T), x, by omega, by go_num, by simp only [Int.max_def], rfl, by omega, by omega, by omega, by omega, H2⟩
        case measure => simp [intOf]; omega
      · rename_i hxx
        clear h2
        by_cases hx0 : T < x
        · have hx1 : ¬ x < size := fun h => hxx ⟨hx0, h⟩
          clear hxx
          go_wp2_with (go_at_call 35; refine (must_no _).mono ?_; rintro e w' ⟨rfl, rfl⟩)
          exact ⟨rfl, rfl, rfl⟩
        · clear hxx
          go_wp2_with (go_at_call 35; refine (must_no _).mono ?_; rintro e w' ⟨rfl, rfl⟩)
          exact ⟨rfl, rfl, rfl⟩
    · obtain rfl : k = n := by omega
      have h2 := HR.out
      rw [List.drop_of_length_le (by omega), risesGo] at h2
      cases h2
end Go.Proofs.Ytadnhjloeaddnaa
