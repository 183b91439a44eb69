/-
  The walks of layer 20 (code): what splits a value into a code and a rest, and tells extra bits.
-/
import Derived.Test.YtlgablepckmogaaGreatRows
import Derived.Test.YtlgablepckmogaaGreatQ02
import Derived.Test.YtlgablepckmogaaGreatQ13
import Derived.Test.YtlgablepckmogaaGreatQ12
import Derived.Laws.EntriesVeiled
namespace Go.Proofs.YtlgablepckmogaaGreat
open Go.RowKit Go.Port
theorem inside_ok (x least below : Int) (w : World) (h0 : least ≤ x) (h1 : x < below) :
    Calls Tryz.prog 118 #[.int .i64 x, .int .i64 least, .int .i64 below] w fun e w' => e = .returned (.int .i64 0) ∧ w = w' := by
  have h2 : ¬ x < least := by omega
  have h3 : ¬ below ≤ x := by omega
  go_enter Tryz.func118, Tryz.ntmps118
  go_wp2
  go_ret
  exact ⟨rfl, rfl⟩
theorem inside_bad (x least below : Int) (w : World) (h : x < least ∨ below ≤ x) :
    Calls Tryz.prog 118 #[.int .i64 x, .int .i64 least, .int .i64 below] w fun e w' => e = .returned (.int .i64 2) ∧ w = w' := by
  by_cases h2 : x < least
  · clear h
    go_enter Tryz.func118, Tryz.ntmps118
    go_wp2
    go_ret
    exact ⟨rfl, rfl⟩
  · have h3 : below ≤ x := by omega
    clear h
    go_enter Tryz.func118, Tryz.ntmps118
    go_wp2
    go_ret
    exact ⟨rfl, rfl⟩
/-- The kind of offsets. -/
def offKind : Value := .agg #[.int .i64 1, .int .i64 268435456, .int .i64 28, .func (.func 114) #[] #[], .func (.func 116) #[] #[], .func (.func 117) #[] #[]]
/-- The kind of numbers, whose closures know the cell q. -/
def numKind (q : Nat) : Value := .agg #[.int .i64 0, .int .i64 262144, .int .i64 44, .func (.func 120) #[] #[], .func (.func 121) #[] #[.pointer (some ⟨q, 0, none⟩)], .func (.func 122) #[] #[.pointer (some ⟨q, 0, none⟩)]]
set_option maxRecDepth 100000 in
theorem offsets_any (w : World) : Calls Tryz.prog 87 #[] w (RetV w offKind) := by
  unfold offKind
  go_enter Tryz.func87, Tryz.ntmps87
  go_wp2
  refine bodyPost_ret (v := .agg #[.int .i64 1, .int .i64 268435456, .int .i64 28, .func (.func 114) #[] #[], .func (.func 116) #[] #[], .func (.func 117) #[] #[]]) (by simp [results, Tryz.results87, go_sem]) rfl ⟨rfl, ?_⟩
  exact below_new w _
theorem off1_any (v : Nat) (w : World) (h0 : 1 ≤ v) (h1 : v < 268435456) :
    Calls Tryz.prog 114 #[.int .i64 (v : Int)] w fun e w' => e = .returned (.int .i64 (ecode true v : Nat)) ∧ w = w' := by
  have HC := hid (len_log (v : Int) w (by omega) (by omega))
  have hw1 : IntKind.u64.wrap (v : Int) = v := u64_nat v (by omega)
  have hl : Nat.log2 v < 28 := (Nat.log2_lt (by omega)).2 (by omega)
  have HE := hid (show ecode true v = Nat.log2 v from rfl)
  rw [Int.toNat_natCast] at HC
  generalize ecode true v = x at *
  generalize Nat.log2 v = k at *
  have HW2 := hid (show wrap64 (k : Int) = (k : Int) from by simp only [wrap64]; omega)
  clear h0 h1 hl
  go_enter Tryz.func114, Tryz.ntmps114
  go_wp2_with (go_at_call 115; refine HC.out.mono ?_; rintro e w' ⟨rfl, rfl⟩)
  go_ret
  exact ⟨ret_i (by rw [HE.out, HW2.out]), rfl⟩
theorem off2_any (c : Int) (w : World) :
    Calls Tryz.prog 116 #[.int .i64 c] w fun e w' => e = .returned (.int .i64 c) ∧ w = w' := by
  go_enter Tryz.func116, Tryz.ntmps116
  go_wp2
  go_ret
  exact ⟨rfl, rfl⟩
theorem off3_any (c : Nat) (w : World) (h : c < 28) :
    Calls Tryz.prog 117 #[.int .i64 (c : Int)] w fun e w' => e = .returned (.int .i64 (efirst true c : Nat)) ∧ w = w' := by
  have h2 : ∀ c, c < 28 → wrap64 ((2 : Int) ^ min c 64) = ((2 ^ c : Nat) : Int) := by decide +kernel
  have HE := hid (h2 c h)
  clear h h2
  go_enter Tryz.func117, Tryz.ntmps117
  go_wp2
  go_ret
  exact ⟨ret_i HE.out, rfl⟩
theorem num1_any (c : Nat) (w : World) (h : 16 ≤ c) (h2 : c < 44) :
    Calls Tryz.prog 119 #[.int .i64 (c : Int)] w fun e w' => e = .returned (.int .i64 (ebits false c : Nat)) ∧ w = w' := by
  have HE := hid (show (ebits false c : Int) = (c : Int) / 2 - 5 from by unfold ebits; simp only [Bool.false_eq_true, if_false]; rw [if_neg (by omega)]; omega)
  have hw1 : IntKind.i64.wrap ((c : Int) / 2) = (c : Int) / 2 := by rw [IntKind.wrap_i64]; omega
  have hw2 : IntKind.i64.wrap ((c : Int) / 2 - 5) = (c : Int) / 2 - 5 := by rw [IntKind.wrap_i64]; omega
  have hm : max ((c : Int) / 2 - 5) 0 = (c : Int) / 2 - 5 := by omega
  have hp : ¬ (c : Int) / 2 - 5 < 0 := by omega
  clear h h2
  go_enter Tryz.func119, Tryz.ntmps119
  go_wp2
  go_ret
  exact ⟨ret_i HE.out.symm, rfl⟩
set_option maxRecDepth 100000 in
theorem numbers_any (w : World) : Calls Tryz.prog 89 #[] w fun e w' => ∃ q, e = .returned (numKind q) ∧ Blk w' q [.func (.func 119) #[] #[]] 131 ∧ Below w.heap.size w w' := by
  have hmf : ∀ (fn : Fn) (first cap : Array Value) (w : World), (Instr.makeFunc fn first cap).run Tryz.prog w = .ok (.func fn first cap) w := fun _ _ _ _ => rfl
  unfold numKind
  go_enter Tryz.func89, Tryz.ntmps89
  go_wp2
  refine bodyPost_ret (v := .agg #[.int .i64 0, .int .i64 262144, .int .i64 44, .func (.func 120) #[] #[], .func (.func 121) #[] #[.pointer (some ⟨w.heap.size + 1, 0, none⟩)], .func (.func 122) #[] #[.pointer (some ⟨w.heap.size + 1, 0, none⟩)]]) (by simp [results, Tryz.results89, go_sem]) rfl ⟨_, rfl, ?_, (below_new w _).alloc (by simp) _⟩
  have h := Blk.new (w.alloc (.cells #[.int .i64 0, .int .i64 262144, .int .i64 44, .func (.func 120) #[] #[], .func (.func 121) #[] #[.pointer (some ⟨w.heap.size + 1, 0, none⟩)], .func (.func 122) #[] #[.pointer (some ⟨w.heap.size + 1, 0, none⟩)]] 173)) [.func (.func 119) #[] #[]] 131
  rwa [World.size_alloc] at h
theorem num4_eq : ∀ c : Nat, c < 44 → 16 ≤ c → wrap64 ((2 + (c : Int) % 2) * 2 ^ min (ebits false c) 64) = (efirst false c : Nat) := by decide +kernel
theorem wrap_small {x : Int} (h0 : 0 ≤ x) (h1 : x < 1000) : wrap64 x = x := by simp only [wrap64]; omega
theorem num2_eq (k r : Nat) (hk : k < 18) : wrap64 (wrap64 (8 + wrap64 (2 * wrap64 (k : Int))) + (r : Int) % 2) = ((8 + 2 * k + r % 2 : Nat) : Int) := by
  rw [wrap_small (x := (k : Int)) (by omega) (by omega), wrap_small (x := 2 * (k : Int)) (by omega) (by omega), wrap_small (x := 8 + 2 * (k : Int)) (by omega) (by omega), wrap_small (by omega) (by omega)]
  omega
theorem bit1 : ∀ c : Nat, c < 44 → bits .and .i64 (c : Int) 1 = ((c % 2 : Nat) : Int) := by decide +kernel
theorem num2_lo (v : Nat) (w : World) (h : v < 16) :
    Calls Tryz.prog 120 #[.int .i64 (v : Int)] w fun e w' => e = .returned (.int .i64 (ecode false v : Nat)) ∧ w = w' := by
  have HE := hid (show ecode false v = v from by unfold ecode; simp only [Bool.false_eq_true, if_false]; rw [if_pos h])
  have hs : (v : Int) < 16 := by omega
  clear h
  go_enter Tryz.func120, Tryz.ntmps120
  go_wp2
  go_ret
  exact ⟨ret_i (by rw [HE.out]), rfl⟩
theorem num2_hi (v : Nat) (w : World) (h : 16 ≤ v) (h1 : v < 262144) :
    Calls Tryz.prog 120 #[.int .i64 (v : Int)] w fun e w' => e = .returned (.int .i64 (ecode false v : Nat)) ∧ w = w' := by
  have HE := hid (show ecode false v = 8 + 2 * Nat.log2 v + v / 2 ^ (Nat.log2 v - 1) % 2 from by unfold ecode; simp only [Bool.false_eq_true, if_false]; rw [if_neg (by omega)])
  have hs : ¬ (v : Int) < 16 := by omega
  have HC := hid (len_log (v : Int) w (by omega) (by omega))
  have hw1 : IntKind.u64.wrap (v : Int) = v := u64_nat v (by omega)
  rw [Int.toNat_natCast] at HC
  have hv : v ≠ 0 := by omega
  have hk1 : 4 ≤ Nat.log2 v := (Nat.le_log2 hv).2 (by omega)
  have hk2 : Nat.log2 v < 18 := (Nat.log2_lt hv).2 (by omega)
  have HR : ∀ k, 4 ≤ k → Nat.log2 v = k → v / 2 ^ (k - 1) < 44 := fun k hk e => by
    have hi := log2_hi v
    rw [e] at hi
    obtain ⟨m, rfl⟩ : ∃ m, k = m + 1 := ⟨k - 1, by omega⟩
    rw [Nat.add_sub_cancel]
    have e1 : 2 ^ (m + 1 + 1) = 2 ^ m * 4 := by rw [Nat.pow_succ, Nat.pow_succ]; omega
    rw [e1] at hi
    have hp : 0 < 2 ^ m := Nat.two_pow_pos m
    have := (Nat.div_lt_iff_lt_mul hp (x := v) (y := 4)).2 (by omega)
    omega
  generalize ecode false v = x at *
  generalize hkk : Nat.log2 v = k at *
  have hsh : Op.shift .shr .i64 (v : Int) .i64 (wrap64 (wrap64 (k : Int) - 1)) = pure (.int .i64 ((v / 2 ^ (k - 1) : Nat) : Int)) := by
    have e : wrap64 (wrap64 (k : Int) - 1) = ((k - 1 : Nat) : Int) := by simp only [wrap64]; omega
    rw [e, shift_shr .i64 .i64 (v : Int) ((k - 1 : Nat) : Int) (by omega) (by show ((k - 1 : Nat) : Int) ≤ 64; omega), Int.toNat_natCast]
    simp
  have hr : v / 2 ^ (k - 1) < 44 := HR k hk1 rfl
  have HK := hid (And.intro hk1 hk2)
  generalize v / 2 ^ (k - 1) = r at *
  have hbit := bit1 r hr
  clear h h1 hv hk1 hk2 hr HR
  go_enter Tryz.func120, Tryz.ntmps120
  go_wp2_with (go_at_call 115; refine HC.out.mono ?_; rintro e w' ⟨rfl, rfl⟩)
  go_ret
  exact ⟨ret_i (by have := HK.out; rw [HE.out]; exact num2_eq k r this.2), rfl⟩
theorem num3_lo (c q : Nat) (w : World) (h : c < 16) :
    Calls Tryz.prog 121 #[.int .i64 (c : Int), .pointer (some ⟨q, 0, none⟩)] w fun e w' => e = .returned (.int .i64 (ebits false c : Nat)) ∧ w = w' := by
  have HE := hid (show ebits false c = 0 from by unfold ebits; simp only [Bool.false_eq_true, if_false]; rw [if_pos h])
  have hs : (c : Int) < 16 := by omega
  clear h
  go_enter Tryz.func121, Tryz.ntmps121
  go_wp2
  go_ret
  exact ⟨ret_i (by rw [HE.out]; rfl), rfl⟩
theorem num3_hi (c q : Nat) (w : World) (h : 16 ≤ c) (h2 : c < 44) (hq : Blk w q [.func (.func 119) #[] #[]] 131) :
    Calls Tryz.prog 121 #[.int .i64 (c : Int), .pointer (some ⟨q, 0, none⟩)] w fun e w' => e = .returned (.int .i64 (ebits false c : Nat)) ∧ w = w' := by
  have HN := hid (num1_any c w h h2)
  have c0 := hq.cell (k := 0) rfl
  have hs : ¬ (c : Int) < 16 := by omega
  clear h h2 hq
  go_enter Tryz.func121, Tryz.ntmps121
  go_wp2_with fail
  refine HN.out.mono ?_
  rintro e w' ⟨rfl, rfl⟩
  go_wp2
  go_ret
  exact ⟨rfl, rfl⟩
theorem num4_lo (c q : Nat) (w : World) (h : c < 16) :
    Calls Tryz.prog 122 #[.int .i64 (c : Int), .pointer (some ⟨q, 0, none⟩)] w fun e w' => e = .returned (.int .i64 (efirst false c : Nat)) ∧ w = w' := by
  have HE := hid (show efirst false c = c from by unfold efirst; simp only [Bool.false_eq_true, if_false]; rw [if_pos h])
  have hs : (c : Int) < 16 := by omega
  clear h
  go_enter Tryz.func122, Tryz.ntmps122
  go_wp2
  go_ret
  exact ⟨ret_i (by rw [HE.out]), rfl⟩
theorem num4_hi (c q : Nat) (w : World) (h : 16 ≤ c) (h2 : c < 44) (hq : Blk w q [.func (.func 119) #[] #[]] 131) :
    Calls Tryz.prog 122 #[.int .i64 (c : Int), .pointer (some ⟨q, 0, none⟩)] w fun e w' => e = .returned (.int .i64 (efirst false c : Nat)) ∧ w = w' := by
  have HN := hid (num1_any c w h h2)
  have c0 := hq.cell (k := 0) rfl
  have hs : ¬ (c : Int) < 16 := by omega
  have hb := bit1 c h2
  have hw1 : IntKind.i64.wrap (2 + ((c % 2 : Nat) : Int)) = 2 + ((c % 2 : Nat) : Int) := by rw [IntKind.wrap_i64]; omega
  have HH := hid (And.intro h h2)
  clear h h2 hq
  go_enter Tryz.func122, Tryz.ntmps122
  go_wp2_with fail
  refine HN.out.mono ?_
  rintro e w' ⟨rfl, rfl⟩
  go_wp2
  go_ret
  exact ⟨ret_i (by have := HH.out; exact num4_eq c this.2 this.1), rfl⟩
end Go.Proofs.YtlgablepckmogaaGreat
