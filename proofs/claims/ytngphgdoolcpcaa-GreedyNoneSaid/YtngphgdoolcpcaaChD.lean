/-
  The walks of layer 29, third part: the small methods of a finder.
-/
import Derived.Test.YtngphgdoolcpcaaChB
namespace Go.Proofs.Ytngphgdoolcpcaa
open Go.RowKit Go.Port

theorem cnone_any (bs : List UInt8) (A : Nat) (W D : Int) (F : Nat) (w : World) (h : FdAt 57 119 bs A W D F w) :
    Calls Try.prog 47 #[.pointer (some ⟨F, 0, none⟩)] w fun e w' => e = .returned (.bool false) ∧ w = w' := by
  obtain ⟨X, va, ca, h1, h2, h3, h4, h5⟩ := h.ex
  have c0 := h1.cell (k := 0) rfl
  clear h h1 h2 h3 h4 h5
  go_enter Try.func47, Try.ntmps47
  go_wp2
  go_ret
  exact ⟨rfl, rfl⟩
theorem cnone_nil (w : World) :
    Calls Try.prog 47 #[.pointer none] w fun e w' => e = .returned (.bool true) ∧ w = w' := by
  go_enter Try.func47, Try.ntmps47
  go_wp2
  go_ret
  exact ⟨rfl, rfl⟩
theorem cnone_zero (F : Nat) (w : World) (h : Blk w F [.pointer none, .slice none 0 0, .int .i64 0, .int .i64 0, .int .i64 0] 57) :
    Calls Try.prog 47 #[.pointer (some ⟨F, 0, none⟩)] w fun e w' => e = .returned (.bool true) ∧ w = w' := by
  have c0 := h.cell (k := 0) rfl
  clear h
  go_enter Try.func47, Try.ntmps47
  go_wp2
  go_ret
  exact ⟨rfl, rfl⟩

theorem cdepth_any (bs : List UInt8) (A : Nat) (W D : Int) (F : Nat) (w : World) (h : FdAt 57 119 bs A W D F w) :
    Calls Try.prog 49 #[.pointer (some ⟨F, 0, none⟩)] w fun e w' => e = .returned (.int .i64 D) ∧ w = w' := by
  have HN := hid (cnone_any bs A W D F w h)
  obtain ⟨X, va, ca, h1, h2, h3, h4, h5⟩ := h.ex
  have c4 := h1.cell (k := 4) rfl
  clear h h1 h2 h3 h4 h5
  go_enter Try.func49, Try.ntmps49
  go_wp2_with (go_at_call 47; refine HN.out.mono ?_; rintro e w' ⟨rfl, rfl⟩)
  go_ret
  exact ⟨rfl, rfl⟩
/-- A finder that is nil or zero. -/
def NoFd (p : Option Addr) (w : World) : Prop := p = none ∨ ∃ F, p = some ⟨F, 0, none⟩ ∧ Blk w F [.pointer none, .slice none 0 0, .int .i64 0, .int .i64 0, .int .i64 0] 57
theorem NoFd.none {p : Option Addr} {w : World} (h : NoFd p w) :
    Calls Try.prog 47 #[.pointer p] w fun e w' => e = .returned (.bool true) ∧ w = w' := by
  rcases h with rfl | ⟨F, rfl, h⟩
  · exact cnone_nil w
  · exact cnone_zero F w h
theorem cdepth_none (p : Option Addr) (w : World) (h : NoFd p w) :
    Calls Try.prog 49 #[.pointer p] w fun e w' => e = .returned (.int .i64 0) ∧ w = w' := by
  have HN := hid h.none
  clear h
  go_enter Try.func49, Try.ntmps49
  go_wp2_with (go_at_call 47; refine HN.out.mono ?_; rintro e w' ⟨rfl, rfl⟩)
  go_ret
  exact ⟨rfl, rfl⟩
theorem clen_none (p : Option Addr) (w : World) (h : NoFd p w) :
    Calls Try.prog 29 #[.pointer p] w fun e w' => e = .returned (.int .i64 0) ∧ w = w' := by
  have HN := hid h.none
  clear h
  go_enter Try.func29, Try.ntmps29
  go_wp2_with (go_at_call 47; refine HN.out.mono ?_; rintro e w' ⟨rfl, rfl⟩)
  go_ret
  exact ⟨rfl, rfl⟩

set_option maxHeartbeats 400000 in
theorem clen_any (bs : List UInt8) (A : Nat) (W D : Int) (F : Nat) (w : World) (h : FdAt 57 119 bs A W D F w) :
    Calls Try.prog 29 #[.pointer (some ⟨F, 0, none⟩)] w fun e w' => e = .returned (.int .i64 ((bs.length : Int) - A)) ∧ ∃ m, w' = w.drewN m := by
  have HN := hid (cnone_any bs A W D F w h)
  obtain ⟨X, va, ca, h1, h2, h3, h4, h5⟩ := h.ex
  have c1 := h1.cell (k := 1) rfl
  have c2 := h1.cell (k := 2) rfl
  have hA := h.hA
  have hn := h.hn
  have hw1 : IntKind.i64.wrap ((bs.length : Int) - (A : Int)) = (bs.length : Int) - (A : Int) := by rw [IntKind.wrap_i64]; omega
  have hnI : (bs.length : Int) ≤ 1000000 := by omega
  have hAI : (A : Int) ≤ (bs.length : Int) := by omega
  clear h h1 h2 h3 h4 h5 hA hn
  go_enter Try.func29, Try.ntmps29
  go_wp2_with (go_at_call 47; refine HN.out.mono ?_; rintro e w' ⟨rfl, rfl⟩)
  go_quiet (fail)
  go_wp2
  go_ret
  exact ⟨rfl, _, rfl⟩

set_option maxHeartbeats 800000 in
theorem cown_any (bs : List UInt8) (A : Nat) (W D : Int) (F : Nat) (p : Int) (w : World) (h : FdAt 57 119 bs A W D F w) :
    Calls Try.prog 33 #[.pointer (some ⟨F, 0, none⟩), .int .i64 p] w fun e w' => e = .returned (if 0 ≤ p ∧ p ≤ (bs.length : Int) - A then .tuple #[.int .i64 ((A : Int) + p), .bool true] else .tuple #[.int .i64 0, .bool false]) ∧ ∃ m, w' = w.drewN m := by
  have HN := hid (cnone_any bs A W D F w h)
  have HL := hid (fun n => clen_any bs A W D F (w.drewN n) (h.drew n))
  obtain ⟨X, va, ca, h1, h2, h3, h4, h5⟩ := h.ex
  have c2 := h1.cell (k := 2) rfl
  have hA := h.hA
  have hn := h.hn
  have hnI : (bs.length : Int) ≤ 1000000 := by omega
  have hAI : (A : Int) ≤ (bs.length : Int) := by omega
  clear h h1 h2 h3 h4 h5 hA hn
  by_cases h0 : 0 ≤ p
  · by_cases hl : p ≤ (bs.length : Int) - A
    · rw [if_pos ⟨h0, hl⟩]
      have d0 : decide (p < 0) = false := decide_eq_false (by omega)
      have d1 : decide ((bs.length : Int) - (A : Int) < p) = false := decide_eq_false (by omega)
      go_enter Try.func33, Try.ntmps33
      go_wp2_with (first | (go_at_call 47; refine HN.out.mono ?_; rintro e w' ⟨rfl, rfl⟩) | (go_at_call 29; refine (HL.out 0).mono ?_; rintro e w' ⟨rfl, m, rfl⟩))
      go_ret2
      exact ⟨rfl, _, rfl⟩
    · rw [if_neg (fun h => hl h.2)]
      have d0 : decide (p < 0) = false := decide_eq_false (by omega)
      have d1 : decide ((bs.length : Int) - (A : Int) < p) = true := decide_eq_true (by omega)
      go_enter Try.func33, Try.ntmps33
      go_wp2_with (first | (go_at_call 47; refine HN.out.mono ?_; rintro e w' ⟨rfl, rfl⟩) | (go_at_call 29; refine (HL.out 0).mono ?_; rintro e w' ⟨rfl, m, rfl⟩))
      go_ret2
      exact ⟨rfl, _, rfl⟩
  · rw [if_neg (fun h => h0 h.1)]
    have d0 : decide (p < 0) = true := decide_eq_true (by omega)
    go_enter Try.func33, Try.ntmps33
    go_wp2_with (go_at_call 47; refine HN.out.mono ?_; rintro e w' ⟨rfl, rfl⟩)
    go_ret2
    exact ⟨rfl, 0, rfl⟩

theorem cwants_any (bs : List UInt8) (A : Nat) (W D : Int) (F c : Nat) (n far : Int) (w : World) (h : FdAt 57 119 bs A W D F w) (hc : w.cell? ⟨c, 0, none⟩ = some (.pointer (some ⟨F, 0, none⟩))) :
    Calls Try.prog 54 #[.int .i64 n, .int .i64 far, .pointer (some ⟨c, 0, none⟩)] w fun e w' => e = .returned (.bool (decide (n < D) && decide (far ≤ W))) ∧ w = w' := by
  obtain ⟨X, va, ca, h1, h2, h3, h4, h5⟩ := h.ex
  have c3 := h1.cell (k := 3) rfl
  have c4 := h1.cell (k := 4) rfl
  clear h h1 h2 h3 h4 h5
  by_cases hd : n < D
  · by_cases hw : far ≤ W
    · have e : (decide (n < D) && decide (far ≤ W)) = true := by simp [hd, hw]
      rw [e]
      go_enter Try.func54, Try.ntmps54
      go_wp2
      go_ret
      exact ⟨rfl, rfl⟩
    · have e : (decide (n < D) && decide (far ≤ W)) = false := by simp [hw]
      rw [e]
      go_enter Try.func54, Try.ntmps54
      go_wp2
      go_ret
      exact ⟨rfl, rfl⟩
  · have e : (decide (n < D) && decide (far ≤ W)) = false := by simp [hd]
    rw [e]
    go_enter Try.func54, Try.ntmps54
    go_wp2
    go_ret
    exact ⟨rfl, rfl⟩
end Go.Proofs.Ytngphgdoolcpcaa
