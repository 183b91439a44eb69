/-
  The walks of layer 5 (tally), second part (from XTally2): the check of any row, Total, Log2.
-/
import Derived.Test.YtolmmfbgljgdcaaGreatPTally
namespace Go.Proofs.YtolmmfbgljgdcaaGreat
open Go.RowKit Go.Port

theorem field_list (a : Option Addr) (n c : Nat) (w : World) : (Instr.field 139 (.agg #[.slice a n c]) 0).run Tryz.prog w = .ok (.slice a n c) w := by
  kernel_rfl

theorem right1_any (n : Int) (w : World) (h : Cnt n) :
    Calls Tryz.prog 119 #[.int .i64 n] w fun e w' => e = .returned (.bool false) ∧ w = w' := by
  obtain ⟨h0, h1⟩ := h
  have t1 : decide (n < 0) = false := by simp; omega
  have t2 : decide (2147483648 < n) = false := by simp; omega
  go_enter Tryz.func119, Tryz.ntmps119
  go_wp2
  go_ret
  exact ⟨rfl, rfl⟩

set_option maxHeartbeats 400000 in
theorem index_any (a : Option Addr) (c : Nat) (l : List Int) (w : World) (hl : l.length ≤ 256) (hcnt : ∀ x ∈ l, Cnt x)
    (hc : ∀ j u, (l.map iv)[j]? = some u → ∃ b off, a = some ⟨b, off, none⟩ ∧ b < w.heap.size ∧ w.cell? ⟨b, off + j, none⟩ = some u) :
    Calls Tryz.prog 123 #[.slice a l.length c, .func (.func 119) #[] #[]] w fun e w' => e = .returned (.int .i64 (-1)) ∧ w = w' := by
  have HC := hid hc
  have HN := hid hcnt
  clear hc hcnt
  go_enter Tryz.func123, Tryz.ntmps123
  go_wp2
  go_loop [8] (fun i => ∃ k : Nat, k ≤ l.length ∧ i = .int .i64 k) (fun i => l.length - (intOf i).toNat)
  case atStart => exact ⟨0, Nat.zero_le _, rfl⟩
  case round =>
    obtain ⟨k, hk, rfl⟩ := hrel
    by_cases hlt : k < l.length
    · obtain ⟨x, hx⟩ : ∃ x, l[k]? = some x := ⟨l[k], by simp [hlt]⟩
      obtain ⟨b, off, rfl, _, hcell⟩ := HC.out k (iv x) (by simp [hx])
      have HX := hid (HN.out x (List.mem_of_getElem? hx))
      clear hx
      unfold iv at hcell
      go_wp2_with (go_at_call 119; refine (right1_any _ _ HX.out).mono ?_; rintro e w' ⟨rfl, rfl⟩)
      go_round
      case rel => exact ⟨k + 1, by omega, by go_num⟩
      case measure => simp [intOf]; omega
    · obtain rfl : k = l.length := by omega
      go_wp2
      go_ret
      exact ⟨rfl, rfl⟩

set_option maxHeartbeats 400000 in
theorem contains_any (a : Option Addr) (c : Nat) (l : List Int) (w : World) (hl : l.length ≤ 256) (hcnt : ∀ x ∈ l, Cnt x)
    (hc : ∀ j u, (l.map iv)[j]? = some u → ∃ b off, a = some ⟨b, off, none⟩ ∧ b < w.heap.size ∧ w.cell? ⟨b, off + j, none⟩ = some u) :
    Calls Tryz.prog 118 #[.slice a l.length c, .func (.func 119) #[] #[]] w fun e w' => e = .returned (.bool false) ∧ w = w' := by
  have HC := hid (index_any a c l w hl hcnt hc)
  clear hc hcnt
  go_enter Tryz.func118, Tryz.ntmps118
  go_wp2_with (go_at_call 123; refine HC.out.mono ?_; rintro e w' ⟨rfl, rfl⟩)
  go_ret
  exact ⟨rfl, rfl⟩

set_option maxHeartbeats 400000 in
theorem right_any (a : Option Addr) (c : Nat) (l : List Int) (w : World) (hl : l.length ≤ 256) (hcnt : ∀ x ∈ l, Cnt x)
    (hc : ∀ j u, (l.map iv)[j]? = some u → ∃ b off, a = some ⟨b, off, none⟩ ∧ b < w.heap.size ∧ w.cell? ⟨b, off + j, none⟩ = some u) :
    Calls Tryz.prog 107 #[.slice a l.length c] w fun e w' => e = .returned (.bool true) ∧ w = w' := by
  have HC := hid (contains_any a c l w hl hcnt hc)
  clear hc hcnt
  have t1 : decide ((l.length : Int) ≤ 256) = true := by simp; omega
  go_enter Tryz.func107, Tryz.ntmps107
  go_wp2_with (go_at_call 118; refine HC.out.mono ?_; rintro e w' ⟨rfl, rfl⟩)
  go_ret
  exact ⟨rfl, rfl⟩

set_option maxRecDepth 100000 in
set_option maxHeartbeats 400000 in
theorem tcheck_any (a : Option Addr) (c : Nat) (l : List Int) (w : World) (hl : l.length ≤ 256) (hcnt : ∀ x ∈ l, Cnt x)
    (hc : ∀ j u, (l.map iv)[j]? = some u → ∃ b off, a = some ⟨b, off, none⟩ ∧ b < w.heap.size ∧ w.cell? ⟨b, off + j, none⟩ = some u) :
    Calls Tryz.prog 86 #[.slice a l.length c] w fun e w' => e = .returned (.int .i64 0) ∧ w = w' := by
  have HC := hid (right_any a c l w hl hcnt hc)
  have hfd := field_list a l.length c
  clear hc hcnt
  go_enter Tryz.func86, Tryz.ntmps86
  go_wp2_with (go_at_call 107; refine HC.out.mono ?_; rintro e w' ⟨rfl, rfl⟩)
  go_ret
  exact ⟨rfl, rfl⟩

theorem ret_b {a b : Bool} (h : a = b) : Ending.returned (.bool a) = .returned (.bool b) := by rw [h]
theorem right1_bad (n : Int) (w : World) (h : ¬ Cnt n) :
    Calls Tryz.prog 119 #[.int .i64 n] w fun e w' => e = .returned (.bool true) ∧ w = w' := by
  unfold Cnt at h
  by_cases h0 : n < 0
  · have t1 : decide (n < 0) = true := decide_eq_true h0
    clear h
    go_enter Tryz.func119, Tryz.ntmps119
    go_wp2
    go_ret
    exact ⟨rfl, rfl⟩
  · have h1 : 2147483648 < n := by omega
    clear h
    go_enter Tryz.func119, Tryz.ntmps119
    go_wp2
    go_ret
    exact ⟨ret_b (by simp), rfl⟩
set_option maxHeartbeats 400000 in
theorem index_bad (a : Option Addr) (c : Nat) (l : List Int) (w : World) (hl : l.length ≤ 256) (hcnt : ¬ ∀ x ∈ l, Cnt x)
    (hc : ∀ j u, (l.map iv)[j]? = some u → ∃ b off, a = some ⟨b, off, none⟩ ∧ b < w.heap.size ∧ w.cell? ⟨b, off + j, none⟩ = some u) :
    Calls Tryz.prog 123 #[.slice a l.length c, .func (.func 119) #[] #[]] w fun e w' => (∃ k : Nat, e = .returned (.int .i64 (k : Int))) ∧ w = w' := by
  have HC := hid hc
  have HN := hid hcnt
  clear hc hcnt
  go_enter Tryz.func123, Tryz.ntmps123
  go_wp2
  go_loop [8] (fun i => ∃ k : Nat, k ≤ l.length ∧ i = .int .i64 k ∧ ∀ x ∈ l.take k, Cnt x) (fun i => l.length - (intOf i).toNat)
  case atStart => exact ⟨0, Nat.zero_le _, rfl, fun x hx => by simp at hx⟩
  case round =>
    obtain ⟨k, hk, rfl, hall⟩ := hrel
    by_cases hlt : k < l.length
    · obtain ⟨x, hx⟩ : ∃ x, l[k]? = some x := ⟨l[k], by simp [hlt]⟩
      obtain ⟨b, off, rfl, _, hcell⟩ := HC.out k (iv x) (by simp [hx])
      have HA := hid (fun (h : Cnt x) => (show ∀ y ∈ l.take (k + 1), Cnt y from by
        intro y hy
        rw [List.take_succ_eq_append_getElem hlt] at hy
        rcases List.mem_append.1 hy with h1 | h1
        · exact hall y h1
        · simp only [List.mem_singleton] at h1
          obtain ⟨_, h2⟩ := List.getElem?_eq_some_iff.1 hx
          rw [h1, h2]; exact h))
      clear hx hall
      unfold iv at hcell
      by_cases hX : Cnt x
      · have HX := hid hX
        clear hX
        go_wp2_with (go_at_call 119; refine (right1_any _ _ HX.out).mono ?_; rintro e w' ⟨rfl, rfl⟩)
        go_round
        case rel => exact ⟨k + 1, by omega, by go_num, HA.out HX.out⟩
        case measure => simp [intOf]; omega
      · have HX := hid hX
        clear hX
        go_wp2_with (go_at_call 119; refine (right1_bad _ _ HX.out).mono ?_; rintro e w' ⟨rfl, rfl⟩)
        go_ret
        exact ⟨⟨k, rfl⟩, rfl⟩
    · obtain rfl : k = l.length := by omega
      rw [List.take_of_length_le (Nat.le_refl _)] at hall
      exact absurd hall HN.out
set_option maxHeartbeats 400000 in
theorem contains_bad (a : Option Addr) (c : Nat) (l : List Int) (w : World) (hl : l.length ≤ 256) (hcnt : ¬ ∀ x ∈ l, Cnt x)
    (hc : ∀ j u, (l.map iv)[j]? = some u → ∃ b off, a = some ⟨b, off, none⟩ ∧ b < w.heap.size ∧ w.cell? ⟨b, off + j, none⟩ = some u) :
    Calls Tryz.prog 118 #[.slice a l.length c, .func (.func 119) #[] #[]] w fun e w' => e = .returned (.bool true) ∧ w = w' := by
  have HC := hid (index_bad a c l w hl hcnt hc)
  clear hc hcnt
  go_enter Tryz.func118, Tryz.ntmps118
  go_wp2_with (go_at_call 123; refine HC.out.mono ?_; rintro e w' ⟨⟨k, rfl⟩, rfl⟩; have hk0 : 0 ≤ (k : Int) := Int.natCast_nonneg k)
  go_ret
  exact ⟨ret_b (by simp), rfl⟩
set_option maxHeartbeats 400000 in
theorem right_bad (a : Option Addr) (c : Nat) (l : List Int) (w : World) (h : ¬ (l.length ≤ 256 ∧ ∀ x ∈ l, Cnt x))
    (hc : ∀ j u, (l.map iv)[j]? = some u → ∃ b off, a = some ⟨b, off, none⟩ ∧ b < w.heap.size ∧ w.cell? ⟨b, off + j, none⟩ = some u) :
    Calls Tryz.prog 107 #[.slice a l.length c] w fun e w' => e = .returned (.bool false) ∧ w = w' := by
  by_cases hl : l.length ≤ 256
  · have HC := hid (contains_bad a c l w hl (fun h2 => h ⟨hl, h2⟩) hc)
    have t1 : decide ((l.length : Int) ≤ 256) = true := by simp; omega
    clear hc h hl
    go_enter Tryz.func107, Tryz.ntmps107
    go_wp2_with (go_at_call 118; refine HC.out.mono ?_; rintro e w' ⟨rfl, rfl⟩)
    go_ret
    exact ⟨rfl, rfl⟩
  · have t1 : decide ((l.length : Int) ≤ 256) = false := by simp; omega
    have t2 : ¬ (l.length : Int) ≤ 256 := by omega
    clear hc h hl
    go_enter Tryz.func107, Tryz.ntmps107
    go_wp2
    go_ret
    exact ⟨rfl, rfl⟩
set_option maxRecDepth 100000 in
set_option maxHeartbeats 400000 in
theorem tcheck_bad (a : Option Addr) (c : Nat) (l : List Int) (w : World) (h : ¬ (l.length ≤ 256 ∧ ∀ x ∈ l, Cnt x))
    (hc : ∀ j u, (l.map iv)[j]? = some u → ∃ b off, a = some ⟨b, off, none⟩ ∧ b < w.heap.size ∧ w.cell? ⟨b, off + j, none⟩ = some u) :
    Calls Tryz.prog 86 #[.slice a l.length c] w fun e w' => e = .returned (.int .i64 2) ∧ w = w' := by
  have HC := hid (right_bad a c l w h hc)
  have hfd := field_list a l.length c
  clear hc h
  go_enter Tryz.func86, Tryz.ntmps86
  go_wp2_with (go_at_call 107; refine HC.out.mono ?_; rintro e w' ⟨rfl, rfl⟩)
  go_ret
  exact ⟨rfl, rfl⟩
set_option maxRecDepth 100000 in
theorem tlog_any (n : Int) (w : World) (h0 : 0 < n) (h1 : n < 4611686018427387904) :
    Calls Tryz.prog 111 #[.int .i64 n] w fun e w' => e = .returned (.tuple #[.int .i64 (lg n), .int .i64 0]) ∧ w = w' := by
  have HL := hid (log_any n w h0 h1)
  have t1 : ¬ n < 1 := by omega
  have t2 : ¬ 4611686018427387903 < n := by omega
  clear h0 h1
  go_enter Tryz.func111, Tryz.ntmps111
  go_wp2_with (go_at_call 120; refine HL.out.mono ?_; rintro e w' ⟨rfl, rfl⟩)
  refine bodyPost_ret (v := .tuple #[.int .i64 (lg n), .int .i64 0]) (by simp [results, Tryz.results111, go_sem]) rfl ?_
  exact ⟨rfl, rfl⟩
end Go.Proofs.YtolmmfbgljgdcaaGreat
