/-
  The walks of reference 20: Bits, Two, Of.
  The walks of reference 20, second part: Of.
-/
import Derived.Test.YtiagbejfghincaaGreatY04
namespace Go.Proofs.YtiagbejfghincaaGreat
open Go.RowKit Go.Port
set_option maxRecDepth 100000 in
theorem rtwo_any (n : Nat) (w : World) (h : n < 44) :
    Calls Tryz.prog 92 #[.int .i64 (n : Int)] w fun e w' => e = .returned (.int .i64 (2 ^ n : Nat)) ∧ w = w' := by
  have HP := hid (show ∀ k, k < 44 → IntKind.i64.wrap (2 * ((2 ^ k : Nat) : Int)) = ((2 ^ (k + 1) : Nat) : Int) from by decide +kernel)
  have HH := hid h
  clear h
  go_enter Tryz.func92, Tryz.ntmps92
  go_wp2
  go_loopw [3, 4] (fun x i wr => ∃ j : Nat, j ≤ n ∧ i = .int .i64 (j : Int) ∧ x = .int .i64 (2 ^ j : Nat) ∧ wr = w) (fun _ i _ => n - (intOf i).toNat)
  case atStart => exact ⟨0, Nat.zero_le _, rfl, rfl, rfl⟩
  case round =>
    obtain ⟨j, hj, rfl, rfl, rfl⟩ := hrel
    by_cases hlt : j < n
    · have hp := HP.out j (by have := HH.out; omega)
      have hlI : (j : Int) < (n : Int) := by omega
      have hw1 : IntKind.i64.wrap ((j : Int) + 1) = (j : Int) + 1 := by have := HH.out; rw [IntKind.wrap_i64]; omega
      have HJ := hid hlt
      generalize hyy : 2 ^ (j + 1) = y at *
      generalize 2 ^ j = x at *
      have HY := hid hyy
      clear hyy
      clear hj hlt
      go_wp2
      go_roundw
      case rel => exact ⟨j + 1, HJ.out, by go_num, by rw [HY.out], trivial⟩
      case measure => have := HJ.out; simp [intOf]; omega
    · obtain rfl : j = n := by omega
      generalize hxx : 2 ^ j = x at *
      have HX := hid hxx
      clear hxx
      go_wp2
      go_ret
      exact ⟨by rw [HX.out]; rfl, rfl⟩
set_option maxRecDepth 100000 in
theorem rbits_off (c : Nat) (w : World) (h : c < 28) :
    Calls Tryz.prog 91 #[.int .i64 (c : Int), .bool true] w fun e w' => e = .returned (.int .i64 (ebits true c : Nat)) ∧ w = w' := by
  have HE := hid (show ebits true c = c from rfl)
  have h1 : ¬ (c : Int) < 0 := by omega
  have h2 : ¬ 43 < (c : Int) := by omega
  have h3 : ¬ 27 < (c : Int) := by omega
  clear h
  go_enter Tryz.func91, Tryz.ntmps91
  go_wp2
  go_ret
  exact ⟨ret_i (by rw [HE.out]), rfl⟩
set_option maxRecDepth 100000 in
theorem rbits_num (c : Nat) (w : World) (h : c < 44) :
    Calls Tryz.prog 91 #[.int .i64 (c : Int), .bool false] w fun e w' => e = .returned (.int .i64 (ebits false c : Nat)) ∧ w = w' := by
  have h1 : ¬ (c : Int) < 0 := by omega
  have h2 : ¬ 43 < (c : Int) := by omega
  have HE := hid (show ebits false c = if c < 16 then 0 else c / 2 - 5 from rfl)
  generalize ebits false c = b at *
  have HH := hid h
  clear h
  go_enter Tryz.func91, Tryz.ntmps91
  go_wp2
  go_loopw [5, 6] (fun n x wr => ∃ j : Nat, 16 + 2 * j ≤ c + 2 + 16 ∧ x = .int .i64 (16 + 2 * (j : Int)) ∧ n = .int .i64 (if j = 0 then 0 else 2 + (j : Int)) ∧ (j = 0 ∨ 16 + 2 * (j - 1) ≤ c) ∧ wr = w) (fun _ x _ => 60 - (intOf x).toNat)
  case atStart => exact ⟨0, by omega, rfl, rfl, .inl rfl, rfl⟩
  case round =>
    obtain ⟨j, hj, rfl, rfl, hjj, rfl⟩ := hrel
    by_cases hlt : 16 + 2 * j ≤ c
    · have hx : 16 + 2 * (j : Int) ≤ (c : Int) := by omega
      have hHH := HH.out
      have hw1 : IntKind.i64.wrap (16 + 2 * (j : Int) - 16) = 2 * (j : Int) := by rw [IntKind.wrap_i64]; omega
      have hw2 : IntKind.i64.wrap (2 * (j : Int) / 2) = (j : Int) := by rw [IntKind.wrap_i64]; omega
      have hw3 : IntKind.i64.wrap (3 + (j : Int)) = 3 + (j : Int) := by rw [IntKind.wrap_i64]; omega
      have hw4 : IntKind.i64.wrap (16 + 2 * (j : Int) + 2) = 16 + 2 * (j : Int) + 2 := by rw [IntKind.wrap_i64]; omega
      have HJ := hid (And.intro hlt hHH)
      generalize (if j = 0 then (0 : Int) else 2 + (j : Int)) = nn at *
      clear hj hjj hlt hHH
      go_wp2
      go_roundw
      case rel =>
        have := HJ.out
        refine ⟨j + 1, by omega, by go_num, ?_, .inr (by omega), trivial⟩
        rw [if_neg (by omega)]
        congr 1
        omega
      case measure => have := HJ.out; simp [intOf]; omega
    · have hx : ¬ 16 + 2 * (j : Int) ≤ (c : Int) := by omega
      have hn : (if j = 0 then (0 : Int) else 2 + (j : Int)) = (b : Int) := by
        rw [HE.out]
        split <;> split <;> omega
      rw [hn]
      clear hn hj hjj hlt
      go_wp2
      go_ret
      exact ⟨rfl, rfl⟩
end Go.Proofs.YtiagbejfghincaaGreat
namespace Go.Proofs.YtiagbejfghincaaGreat
open Go.RowKit Go.Port
set_option maxRecDepth 100000 in
theorem rbits_end (off : Bool) (w : World) :
    Calls Tryz.prog 91 #[.int .i64 (ecodes off : Nat), .bool off] w fun e w' => e = .returned (.int .i64 (-1)) ∧ w = w' := by
  cases off
  all_goals
    unfold ecodes
    go_enter Tryz.func91, Tryz.ntmps91
    go_wp2
    go_ret
    exact ⟨rfl, rfl⟩
theorem rbits_any (off : Bool) (c : Nat) (w : World) (h : c < ecodes off) :
    Calls Tryz.prog 91 #[.int .i64 (c : Int), .bool off] w fun e w' => e = .returned (.int .i64 (ebits off c : Nat)) ∧ w = w' := by
  cases off with
  | true => exact rbits_off c w h
  | false => exact rbits_num c w h
theorem ebits_lt : ∀ (off : Bool) (c : Nat), c < ecodes off → ebits off c < 44 := by decide
theorem efirst_small : ∀ (off : Bool) (c : Nat), c ≤ ecodes off → efirst off c ≤ 268435456 := by decide +kernel
set_option maxRecDepth 100000 in
theorem rof_off (v : Nat) (w : World) (h0 : eleast true ≤ v) :
    Calls Tryz.prog 62 #[.int .i64 (v : Int), .bool true] w fun e w' => (∃ r : Int, e = .returned (.tuple #[.int .i64 ((if v < ebelow true then ecode true v else 0 : Nat) : Int), .int .u64 r, .int .i64 (if v < ebelow true then 0 else 2)])) ∧ w = w' := by
  have HB := hid (fun c W h => rbits_any true c W h)
  have HE := hid (fun W => rbits_end true W)
  have HT := hid (fun n W h => rtwo_any n W h)
  have H0 := hid h0
  have hle : ¬ (v : Int) < 1 := by unfold eleast at h0; simp at h0; omega
  clear h0
  go_enter Tryz.func62, Tryz.ntmps62
  go_wp2_with fail
  go_loopw [7, 8] (fun l c wr => ∃ k : Nat, k ≤ ecodes true ∧ c = .int .i64 (k : Int) ∧ l = .int .i64 (efirst true k : Nat) ∧ efirst true k ≤ v ∧ wr = w) (fun _ c _ => 50 - (intOf c).toNat)
  case atStart => exact ⟨0, Nat.zero_le _, rfl, rfl, H0.out, rfl⟩
  case round =>
    obtain ⟨k, hk, rfl, rfl, hkv, rfl⟩ := hrel
    by_cases hlt : k < ecodes true
    · have hn := efirst_next true k hlt
      have hsm := efirst_small true (k + 1) hlt
      have hbl := ebits_lt true k hlt
      have HBk := hid (fun W => HB.out k W hlt)
      have HTk := hid (fun W => HT.out (ebits true k) W hbl)
      have hend := efirst_le (off := true) (a := k + 1) (b := ecodes true) hlt (Nat.le_refl _)
      rw [efirst_end] at hend
      have hw1 : IntKind.i64.wrap ((efirst true k : Int) + ((2 ^ ebits true k : Nat) : Int)) = (efirst true (k + 1) : Nat) := by rw [IntKind.wrap_i64]; omega
      have hw2 : IntKind.i64.wrap ((k : Int) + 1) = (k : Int) + 1 := by have : ecodes true = 28 := rfl; rw [IntKind.wrap_i64]; omega
      have hp : 0 ≤ (ebits true k : Int) := by omega
      have HI := hid (fun hv => ecode_is (off := true) H0.out (show v < ebelow true by omega) hlt hkv hv)
      have HK := hid (And.intro hlt hend)
      have HN := hid hn
      generalize 2 ^ ebits true k = X at *
      generalize ebits true k = B at *
      have hcase : (v : Int) < (efirst true (k + 1) : Int) ∨ ¬ (v : Int) < (efirst true (k + 1) : Int) := by omega
      clear hk hkv hlt hn hsm hbl hend
      rcases hcase with hc | hc
      · have hv : v < efirst true (k + 1) := by omega
        have HV := hid hv
        have hvb : v < ebelow true := Nat.lt_of_lt_of_le hv HK.out.2
        clear hv
        go_wp2_with fail
        refine (HBk.out _).mono ?_
        rintro e w' ⟨rfl, rfl⟩
        go_wp2_with fail
        refine (HBk.out _).mono ?_
        rintro e w' ⟨rfl, rfl⟩
        go_wp2_with fail
        refine (HTk.out _).mono ?_
        rintro e w' ⟨rfl, rfl⟩
        go_wp2
        refine bodyPost_ret (v := .tuple #[.int .i64 (k : Int), .int .u64 (IntKind.u64.wrap (wrap64 ((v : Int) - (efirst true k : Nat)))), .int .i64 0]) (by simp [results, Tryz.results62, go_sem]) rfl ?_
        have hv := HV.out
        exact ⟨⟨_, by rw [HI.out hv]⟩, rfl⟩
      · go_wp2_with fail
        refine (HBk.out _).mono ?_
        rintro e w' ⟨rfl, rfl⟩
        go_wp2_with fail
        refine (HBk.out _).mono ?_
        rintro e w' ⟨rfl, rfl⟩
        go_wp2_with fail
        refine (HTk.out _).mono ?_
        rintro e w' ⟨rfl, rfl⟩
        go_wp2
        go_roundw
        case rel => exact ⟨k + 1, HK.out.1, by go_num, rfl, by omega, trivial⟩
        case measure => have := HK.out.1; simp [intOf, ecodes] at *; omega
    · obtain rfl : k = ecodes true := by omega
      have hb : ¬ v < ebelow true := by rw [efirst_end] at hkv; omega
      have HV := hid hb
      clear hk hlt hkv hb
      go_wp2_with fail
      refine (HE.out _).mono ?_
      rintro e w' ⟨rfl, rfl⟩
      go_wp2
      refine bodyPost_ret (v := .tuple #[.int .i64 0, .int .u64 0, .int .i64 2]) (by simp [results, Tryz.results62, go_sem]) rfl ?_
      exact ⟨⟨0, rfl⟩, rfl⟩
set_option maxRecDepth 100000 in
theorem rof_num (v : Nat) (w : World) (h0 : eleast false ≤ v) :
    Calls Tryz.prog 62 #[.int .i64 (v : Int), .bool false] w fun e w' => (∃ r : Int, e = .returned (.tuple #[.int .i64 ((if v < ebelow false then ecode false v else 0 : Nat) : Int), .int .u64 r, .int .i64 (if v < ebelow false then 0 else 2)])) ∧ w = w' := by
  have HB := hid (fun c W h => rbits_any false c W h)
  have HE := hid (fun W => rbits_end false W)
  have HT := hid (fun n W h => rtwo_any n W h)
  have H0 := hid h0
  have hle : ¬ (v : Int) < 0 := by unfold eleast at h0; simp at h0; omega
  clear h0
  go_enter Tryz.func62, Tryz.ntmps62
  go_wp2_with fail
  go_loopw [7, 8] (fun l c wr => ∃ k : Nat, k ≤ ecodes false ∧ c = .int .i64 (k : Int) ∧ l = .int .i64 (efirst false k : Nat) ∧ efirst false k ≤ v ∧ wr = w) (fun _ c _ => 50 - (intOf c).toNat)
  case atStart => exact ⟨0, Nat.zero_le _, rfl, rfl, H0.out, rfl⟩
  case round =>
    obtain ⟨k, hk, rfl, rfl, hkv, rfl⟩ := hrel
    by_cases hlt : k < ecodes false
    · have hn := efirst_next false k hlt
      have hsm := efirst_small false (k + 1) hlt
      have hbl := ebits_lt false k hlt
      have HBk := hid (fun W => HB.out k W hlt)
      have HTk := hid (fun W => HT.out (ebits false k) W hbl)
      have hend := efirst_le (off := false) (a := k + 1) (b := ecodes false) hlt (Nat.le_refl _)
      rw [efirst_end] at hend
      have hw1 : IntKind.i64.wrap ((efirst false k : Int) + ((2 ^ ebits false k : Nat) : Int)) = (efirst false (k + 1) : Nat) := by rw [IntKind.wrap_i64]; omega
      have hw2 : IntKind.i64.wrap ((k : Int) + 1) = (k : Int) + 1 := by have : ecodes false = 44 := rfl; rw [IntKind.wrap_i64]; omega
      have hp : 0 ≤ (ebits false k : Int) := by omega
      have HI := hid (fun hv => ecode_is (off := false) H0.out (show v < ebelow false by omega) hlt hkv hv)
      have HK := hid (And.intro hlt hend)
      have HN := hid hn
      generalize 2 ^ ebits false k = X at *
      generalize ebits false k = B at *
      have hcase : (v : Int) < (efirst false (k + 1) : Int) ∨ ¬ (v : Int) < (efirst false (k + 1) : Int) := by omega
      clear hk hkv hlt hn hsm hbl hend
      rcases hcase with hc | hc
      · have hv : v < efirst false (k + 1) := by omega
        have HV := hid hv
        have hvb : v < ebelow false := Nat.lt_of_lt_of_le hv HK.out.2
        clear hv
        go_wp2_with fail
        refine (HBk.out _).mono ?_
        rintro e w' ⟨rfl, rfl⟩
        go_wp2_with fail
        refine (HBk.out _).mono ?_
        rintro e w' ⟨rfl, rfl⟩
        go_wp2_with fail
        refine (HTk.out _).mono ?_
        rintro e w' ⟨rfl, rfl⟩
        go_wp2
        refine bodyPost_ret (v := .tuple #[.int .i64 (k : Int), .int .u64 (IntKind.u64.wrap (wrap64 ((v : Int) - (efirst false k : Nat)))), .int .i64 0]) (by simp [results, Tryz.results62, go_sem]) rfl ?_
        have hv := HV.out
        exact ⟨⟨_, by rw [HI.out hv]⟩, rfl⟩
      · go_wp2_with fail
        refine (HBk.out _).mono ?_
        rintro e w' ⟨rfl, rfl⟩
        go_wp2_with fail
        refine (HBk.out _).mono ?_
        rintro e w' ⟨rfl, rfl⟩
        go_wp2_with fail
        refine (HTk.out _).mono ?_
        rintro e w' ⟨rfl, rfl⟩
        go_wp2
        go_roundw
        case rel => exact ⟨k + 1, HK.out.1, by go_num, rfl, by omega, trivial⟩
        case measure => have := HK.out.1; simp [intOf, ecodes] at *; omega
    · obtain rfl : k = ecodes false := by omega
      have hb : ¬ v < ebelow false := by rw [efirst_end] at hkv; omega
      have HV := hid hb
      clear hk hlt hkv hb
      go_wp2_with fail
      refine (HE.out _).mono ?_
      rintro e w' ⟨rfl, rfl⟩
      go_wp2
      refine bodyPost_ret (v := .tuple #[.int .i64 0, .int .u64 0, .int .i64 2]) (by simp [results, Tryz.results62, go_sem]) rfl ?_
      exact ⟨⟨0, rfl⟩, rfl⟩
end Go.Proofs.YtiagbejfghincaaGreat
