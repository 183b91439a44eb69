/-
  The walks of layer 5 (tally), second part: the check, the cost, the histogram of one part.
-/
import Derived.Test.YtadnhjloeaddnaaTally
namespace Go.Proofs.Ytadnhjloeaddnaa
open Go.RowKit Go.Port

theorem field_list (a : Option Addr) (n c : Nat) (w : World) : (Instr.field 95 (.agg #[.slice a n c]) 0).run Try.prog w = .ok (.slice a n c) w := by
  kernel_rfl

theorem right1_any (n : Int) (w : World) (h : Cnt n) :
    Calls Try.prog 69 #[.int .i64 n] w fun e w' => e = .returned (.bool false) ∧ w = w' := by
  obtain ⟨h0, h1⟩ := h
  have t1 : decide (n < 0) = false := by simp; omega
  have t2 : decide (2147483648 < n) = false := by simp; omega
  go_enter Try.func69, Try.ntmps69
  go_wp2
  go_ret
  exact ⟨rfl, rfl⟩

set_option maxHeartbeats 400000 in
theorem index_any (a : Option Addr) (c : Nat) (l : List Int) (w : World) (hl : l.length ≤ 256) (hcnt : ∀ x ∈ l, Cnt x)
    (hc : ∀ j u, (l.map iv)[j]? = some u → ∃ b off, a = some ⟨b, off, none⟩ ∧ b < w.heap.size ∧ w.cell? ⟨b, off + j, none⟩ = some u) :
    Calls Try.prog 70 #[.slice a l.length c, .func (.func 69) #[] #[]] w fun e w' => e = .returned (.int .i64 (-1)) ∧ w = w' := by
  have HC := hid hc
  have HN := hid hcnt
  clear hc hcnt
  go_enter Try.func70, Try.ntmps70
  go_wp2
  go_loop [8] (fun i => ∃ k : Nat, k ≤ l.length ∧ i = .int .i64 k) (fun i => l.length - (intOf i).toNat)
  case atStart => exact ⟨0, Nat.zero_le _, rfl⟩
  case round =>
    obtain ⟨k, hk, rfl⟩ := hrel
    by_cases hlt : k < l.length
    · obtain ⟨x, hx⟩ : ∃ x, l[k]? = some x := ⟨l[k], by simp [hlt]⟩
      obtain ⟨b, off, rfl, _, hcell⟩ := HC.out k (iv x) (by simp [hx])
      have HX := hid (HN.out x (List.mem_of_getElem? hx))
      clear hx
      unfold iv at hcell
      go_wp2_with (go_at_call 69; refine (right1_any _ _ HX.out).mono ?_; rintro e w' ⟨rfl, rfl⟩)
      go_round
      case rel => exact ⟨k + 1, by omega, by go_num⟩
      case measure => simp [intOf]; omega
    · obtain rfl : k = l.length := by omega
      go_wp2
      go_ret
      exact ⟨rfl, rfl⟩

set_option maxHeartbeats 400000 in
theorem contains_any (a : Option Addr) (c : Nat) (l : List Int) (w : World) (hl : l.length ≤ 256) (hcnt : ∀ x ∈ l, Cnt x)
    (hc : ∀ j u, (l.map iv)[j]? = some u → ∃ b off, a = some ⟨b, off, none⟩ ∧ b < w.heap.size ∧ w.cell? ⟨b, off + j, none⟩ = some u) :
    Calls Try.prog 68 #[.slice a l.length c, .func (.func 69) #[] #[]] w fun e w' => e = .returned (.bool false) ∧ w = w' := by
  have HC := hid (index_any a c l w hl hcnt hc)
  clear hc hcnt
  go_enter Try.func68, Try.ntmps68
  go_wp2_with (go_at_call 70; refine HC.out.mono ?_; rintro e w' ⟨rfl, rfl⟩)
  go_ret
  exact ⟨rfl, rfl⟩

set_option maxHeartbeats 400000 in
theorem right_any (a : Option Addr) (c : Nat) (l : List Int) (w : World) (hl : l.length ≤ 256) (hcnt : ∀ x ∈ l, Cnt x)
    (hc : ∀ j u, (l.map iv)[j]? = some u → ∃ b off, a = some ⟨b, off, none⟩ ∧ b < w.heap.size ∧ w.cell? ⟨b, off + j, none⟩ = some u) :
    Calls Try.prog 65 #[.slice a l.length c] w fun e w' => e = .returned (.bool true) ∧ w = w' := by
  have HC := hid (contains_any a c l w hl hcnt hc)
  clear hc hcnt
  have t1 : decide ((l.length : Int) ≤ 256) = true := by simp; omega
  go_enter Try.func65, Try.ntmps65
  go_wp2_with (go_at_call 68; refine HC.out.mono ?_; rintro e w' ⟨rfl, rfl⟩)
  go_ret
  exact ⟨rfl, rfl⟩

set_option maxRecDepth 100000 in
set_option maxHeartbeats 400000 in
theorem tcheck_any (a : Option Addr) (c : Nat) (l : List Int) (w : World) (hl : l.length ≤ 256) (hcnt : ∀ x ∈ l, Cnt x)
    (hc : ∀ j u, (l.map iv)[j]? = some u → ∃ b off, a = some ⟨b, off, none⟩ ∧ b < w.heap.size ∧ w.cell? ⟨b, off + j, none⟩ = some u) :
    Calls Try.prog 63 #[.slice a l.length c] w fun e w' => e = .returned (.int .i64 0) ∧ w = w' := by
  have HC := hid (right_any a c l w hl hcnt hc)
  have hfd := field_list a l.length c
  clear hc hcnt
  go_enter Try.func63, Try.ntmps63
  go_wp2_with (go_at_call 65; refine HC.out.mono ?_; rintro e w' ⟨rfl, rfl⟩)
  go_ret
  exact ⟨rfl, rfl⟩

/-! ### The cost -/
theorem costU_step (T : Int) (l us : List Int) (k : Nat) (s : Int) (hs : us[k]? = some s) : costU T l (us.take (k + 1)) = costU T l (us.take k) + l.getD s.toNat 0 * (lg T - lg (l.getD s.toNat 0)) := by
  have hlt : k < us.length := (List.getElem?_eq_some_iff.1 hs).1
  have e : us[k] = s := by simpa [hlt] using hs
  rw [List.take_succ_eq_append_getElem hlt, costU_append, e]
  simp [costU]

theorem costU_bounds {T : Int} {l : List Int} (hT : 0 ≤ T) (hT1 : T < 4611686018427387904) (hcnt : ∀ c ∈ l, Cnt c) {us : List Int} (hu : ∀ s ∈ us, ∃ j : Nat, s = (j : Int) ∧ ∃ c, l[j]? = some c ∧ 0 < c) :
    -(35184372088832 * us.length) ≤ costU T l us ∧ costU T l us ≤ 35184372088832 * us.length := by
  induction us with
  | nil => simp [costU]
  | cons s us ih =>
    obtain ⟨j, rfl, c, hc, h0⟩ := hu s (by simp)
    have h1 := term_bounds hT hT1 (hcnt c (List.mem_of_getElem? hc))
    rw [if_pos h0] at h1
    have h2 := ih (fun s hs => hu s (List.mem_cons_of_mem _ hs))
    simp only [costU, List.length_cons, Int.toNat_natCast, List.getD_eq_getElem?_getD, hc, Option.getD_some]
    omega

set_option maxRecDepth 100000 in
set_option maxHeartbeats 800000 in
theorem tcost1_any (a : Option Addr) (c : Nat) (l : List Int) (w : World) (hl : l.length ≤ 256) (hcnt : ∀ x ∈ l, Cnt x)
    (hc : ∀ j u, (l.map iv)[j]? = some u → ∃ b off, a = some ⟨b, off, none⟩ ∧ b < w.heap.size ∧ w.cell? ⟨b, off + j, none⟩ = some u) :
    Calls Try.prog 58 #[.agg #[.slice a l.length c]] w (RetV w (.int .i64 (costS l))) := by
  have hsb := sum_bounds hcnt
  have hmem : ∀ s ∈ usedGo 0 l, ∃ j : Nat, s = (j : Int) ∧ ∃ c, l[j]? = some c ∧ 0 < c := fun s hs => by
    obtain ⟨j, h1, h2⟩ := usedGo_mem hs
    exact ⟨j, by rw [h1, Nat.zero_add], h2⟩
  have HM := hid hmem
  have HU := hid (costU_used l)
  have hc1 := fun (W1 : World) (hb : Below w.heap.size w W1) (j : Nat) (u : Value) (hu : (l.map iv)[j]? = some u) => (show ∃ b off, a = some ⟨b, off, none⟩ ∧ b < W1.heap.size ∧ W1.cell? ⟨b, off + j, none⟩ = some u from by
    obtain ⟨b, off, h1, h2, h3⟩ := hc j u hu
    exact ⟨b, off, h1, Nat.lt_of_lt_of_le h2 hb.size, (hb.cell (p := ⟨b, off + j, none⟩) h2).trans h3⟩)
  have HT := hid (fun (W1 : World) (hb : Below w.heap.size w W1) => total_any a c l W1 hl hcnt (hc1 W1 hb))
  have HS := hid (fun (W1 : World) (hb : Below w.heap.size w W1) => used_any a c l W1 hl (hc1 W1 hb))
  have hul := usedGo_length 0 l
  have HC := hid hc1
  have HN := hid hcnt
  clear hc hc1 hcnt hmem
  generalize hus : usedGo 0 l = us at HM HU HS hul
  clear hus
  generalize hn : l.length = n at hl HT HS hul
  go_enter Try.func58, Try.ntmps58
  go_wp2_with (first
    | (go_at_call 59; refine (HT.out _ (below_new _ _)).mono ?_; rintro e w' ⟨rfl, rfl⟩)
    | (go_at_call 60; refine (HS.out _ (below_new _ _)).mono ?_; rintro e w1 ⟨v, rfl, hsl, hb1⟩; obtain ⟨a1, c1, rfl, _, _, _, hcu⟩ := hsl.open))
  go_loopw [2, 13] (fun x i wr => ∃ k m : Nat, k ≤ us.length ∧ i = .int .i64 k ∧ x = .int .i64 (costU l.sum l (us.take k)) ∧ wr = w1.drewN m) (fun _ i _ => us.length - (intOf i).toNat)
  case atStart => exact ⟨0, 0, Nat.zero_le _, rfl, rfl, rfl⟩
  case round =>
    obtain ⟨k, m, hk, rfl, rfl, rfl⟩ := hrel
    by_cases hlt : k < us.length
    · obtain ⟨s, hs⟩ : ∃ s, us[k]? = some s := ⟨us[k], by simp [hlt]⟩
      obtain ⟨b1, off1, rfl, _, hcell1⟩ := hcu k (iv s) (by simp [hs])
      obtain ⟨j, rfl, x, hx, h0⟩ := HM.out s (List.mem_of_getElem? hs)
      have hbw : Below w.heap.size w w1 := (below_new w _).trans (hb1.mono (by simp))
      obtain ⟨b, off, rfl, _, hcell⟩ := HC.out w1 hbw j (iv x) (by simp [hx])
      have hcx := HN.out x (List.mem_of_getElem? hx)
      have hle := le_sum HN.out (List.mem_of_getElem? hx)
      have hT1 : l.sum < 4611686018427387904 := by omega
      have hub := costU_bounds hsb.1 hT1 HN.out (us := us.take k) (fun s hs => HM.out s (List.mem_of_mem_take hs))
      have htb := term_bounds hsb.1 hT1 hcx
      rw [if_pos h0] at htb
      have hlk : (us.take k).length ≤ 256 := by rw [List.length_take]; omega
      have hst := costU_step l.sum l us k (j : Int) hs
      simp only [Int.toNat_natCast, List.getD_eq_getElem?_getD, hx, Option.getD_some] at hst
      have HST := hid hst
      unfold Cnt at hcx
      have hjl : j < n := by rw [← hn]; exact (List.getElem?_eq_some_iff.1 hx).1
      have hlgx := lg_bounds h0 (by omega)
      have hlgT := lg_bounds (x := l.sum) (by omega) hT1
      have hc0 := (hb1.cell (p := ⟨w.heap.size, 0, none⟩) (by simp)).trans (Blk.cell (Blk.new w [Value.slice (some ⟨b, off, none⟩) n c] 95) (k := 0) rfl)
      clear hs hx hst
      unfold iv at hcell hcell1
      go_wp2
      go_quiet ((go_at_call 61; first | exact quiet_left2 (log_any _ _ h0 (by omega)) | exact quiet_left2 (log_any _ _ (by omega) hT1)))
      go_wp2
      go_roundw
      case rel => exact ⟨k + 1, m + nq, by omega, by go_num, by rw [HST.out], rfl⟩
      case measure => simp [intOf]; omega
    · obtain rfl : k = us.length := by omega
      go_wp2
      go_ret
      exact ⟨by rw [List.take_length, HU.out]; rfl, below_drewN ((below_new w _).trans (hb1.mono (by simp))) m⟩

set_option maxRecDepth 100000 in
set_option maxHeartbeats 400000 in
theorem told_any (a : Option Addr) (c : Nat) (l : List Int) (w : World) (hl : l.length ≤ 256) (hcnt : ∀ x ∈ l, Cnt x)
    (hc : ∀ j u, (l.map iv)[j]? = some u → ∃ b off, a = some ⟨b, off, none⟩ ∧ b < w.heap.size ∧ w.cell? ⟨b, off + j, none⟩ = some u) :
    Calls Try.prog 57 #[.slice a l.length c, .func (.func 58) #[] #[]] w (RetV w (.tuple #[.int .i64 (costS l), .int .i64 0])) := by
  have HC := hid (tcheck_any a c l w hl hcnt hc)
  have HD := hid (tcost1_any a c l w hl hcnt hc)
  clear hc hcnt
  go_enter Try.func57, Try.ntmps57
  go_wp2_with (first
    | (go_at_call 63; refine HC.out.mono ?_; rintro e w' ⟨rfl, rfl⟩)
    | (go_at_call 58; refine HD.out.mono ?_; rintro e w' ⟨rfl, hb⟩))
  go_ret2
  exact ⟨rfl, hb⟩

set_option maxRecDepth 100000 in
set_option maxHeartbeats 400000 in
theorem tcost_any (a : Option Addr) (c : Nat) (l : List Int) (w : World) (hl : l.length ≤ 256) (hcnt : ∀ x ∈ l, Cnt x)
    (hc : ∀ j u, (l.map iv)[j]? = some u → ∃ b off, a = some ⟨b, off, none⟩ ∧ b < w.heap.size ∧ w.cell? ⟨b, off + j, none⟩ = some u) :
    Calls Try.prog 50 #[.slice a l.length c] w (RetV w (.tuple #[.int .i64 (costS l), .int .i64 0])) := by
  have HC := hid (told_any a c l w hl hcnt hc)
  clear hc hcnt
  go_enter Try.func50, Try.ntmps50
  go_wp2_with (go_at_call 57; refine HC.out.mono ?_; rintro e w' ⟨rfl, hb⟩)
  go_ret2
  exact ⟨rfl, hb⟩
end Go.Proofs.Ytadnhjloeaddnaa
