/-
  The walks of layer 32 (price), first part: must, caught, log, none, rows.at.
  Plain laws of layer 20 (code): codes of numbers and of offsets, their first values and extra bits. No program in sight.
-/
import Derived.Test.YtiagbejfghincaaGreatX03
import Derived.Recover
import Derived.Defers
import Derived.Laws.Pointers
import Derived.Laws.EntriesVeiled
namespace Go.Proofs.YtiagbejfghincaaGreat
open Go.RowKit Go.Port
set_option maxRecDepth 100000 in
theorem prmust_ok (b : Nat) (w : World) (h : w.cell? ⟨b, 0, none⟩ = some (.int .i64 0)) :
    Calls Tryz.prog 87 #[.slice (some ⟨b, 0, none⟩) 1 1] w fun e w' => e = .returned (.tuple #[]) ∧ w = w' := by
  go_enter Tryz.func87, Tryz.ntmps87
  go_wp2
  go_loopw [6] (fun i wr => (i = .int .i64 0 ∨ i = .int .i64 1) ∧ wr = w) (fun i _ => 1 - (intOf i).toNat)
  case atStart => exact ⟨.inl rfl, rfl⟩
  case round =>
    obtain ⟨hi, rfl⟩ := hrel
    rcases hi with rfl | rfl
    · go_wp2
      go_roundw
      case rel => exact ⟨.inr rfl, trivial⟩
      case measure => simp [intOf]
    · go_wp2
      go_end0
      exact ⟨rfl, rfl⟩
set_option maxRecDepth 100000 in
theorem prmust_bad (b : Nat) (n : Int) (w : World) (h : w.cell? ⟨b, 0, none⟩ = some (.int .i64 n)) (hn : ¬ n = 0) :
    Calls Tryz.prog 87 #[.slice (some ⟨b, 0, none⟩) 1 1] w fun e w' => e = .panicked [{ v := .iface 46 (.int .i64 n), recovered := false }] ∧ w = w' := by
  go_enter Tryz.func87, Tryz.ntmps87
  go_wp2
  go_loopw [6] (fun i wr => i = .int .i64 0 ∧ wr = w) (fun i _ => 1 - (intOf i).toNat)
  case atStart => exact ⟨rfl, rfl⟩
  case round =>
    obtain ⟨rfl, rfl⟩ := hrel
    go_wp2
    exact ⟨rfl, rfl, rfl⟩
set_option maxRecDepth 100000 in
theorem prlog_any (n : Int) (w : World) (h0 : 0 < n) (h1 : n < 4611686018427387904) :
    Calls Tryz.prog 116 #[.int .i64 n] w (RetV w (.int .i64 (lg n))) := by
  have HL := hid (tlog_any n w h0 h1)
  have HB := hid (below_new w (.cells #[.int .i64 0] 46))
  have HM := hid (prmust_ok w.heap.size (w.alloc (.cells #[.int .i64 0] 46)) ((Blk.new w [.int .i64 0] 46).cell (k := 0) rfl))
  clear h0 h1
  go_enter Tryz.func116, Tryz.ntmps116
  go_wp2_with fail
  refine HL.out.mono ?_
  rintro e w' ⟨rfl, rfl⟩
  go_wp2_with fail
  refine HM.out.mono ?_
  rintro e w' ⟨rfl, rfl⟩
  go_wp2
  go_ret
  exact ⟨rfl, HB.out⟩
theorem priface_nil (w : World) : (binOp BinOp.neq 20 .nilIface .nilIface).run Tryz.prog w = .ok (.bool false) w := by kernel_rfl
theorem priface_err (n : Int) (w : World) : (binOp BinOp.neq 20 (.iface 46 (.int .i64 n)) .nilIface).run Tryz.prog w = .ok (.bool true) w := by kernel_rfl
theorem priface_is (n : Int) (w : World) : (Instr.typeAssert (.iface 46 (.int .i64 n)) 20 46 true).run Tryz.prog w = .ok (.tuple #[.int .i64 n, .bool true]) w := by kernel_rfl
set_option maxRecDepth 100000 in
set_option maxHeartbeats 400000 in
theorem prcaught_idle (p : Addr) (v : Value) (w : World) :
    CallsD Tryz.prog 54 #[.pointer (some p), v] .returning w fun e u' w' => e = .returned (.tuple #[]) ∧ u' = .returning ∧ w' = w := by
  have hnil := priface_nil
  refine callsD_of_wpS Tryz.func54 rfl fun c₀ cs hu => ?_
  simp only [Tryz.ntmps54, List.size_toArray, List.length_cons, List.length_nil, Nat.reduceAdd, Nat.reduceSub, Array.replicate_succ,
     Array.replicate_zero, List.push_toArray, List.append_toArray, List.nil_append, List.cons_append]
  apply wpS_seq
  apply wpS_region
  generalize hQ : (Exit.thenS _ _ : Exit → Act → List Frame → World → Prop) = Q
  simp [wpOpsS, go_sem, recoverD, hu]
  subst hQ
  dsimp only [Exit.thenS]
  refine wpS_of_wp ?_
  go_wp2
  exact ⟨rfl, .returning, by cases c₀; simp_all, .tuple #[], results_none rfl _ _ _, rfl, rfl, rfl⟩
set_option maxRecDepth 100000 in
set_option maxHeartbeats 400000 in
/-- caught behind a panic of the number n: the closure that clears is called, then the error is stored. -/
theorem prcaught_err (p : Addr) (n x : Int) (f : FuncId) (cap : Array Value) (w w1 : World) (hen : ∀ args w, (callFunc f args).run Tryz.prog w = .ok (.enter f args) w) (hf : Calls Tryz.prog f cap w fun e w' => e = .returned (.tuple #[]) ∧ w1 = w') (hc : w1.cell? p = some (.int .i64 x)) (hz : w1.frozen? p = false) :
    CallsD Tryz.prog 54 #[.pointer (some p), .func (.func f) #[] cap] (.panicking [{ v := .iface 46 (.int .i64 n), recovered := false }]) w fun e u' w' =>
      e = .returned (.tuple #[]) ∧ u' = .panicking [{ v := .iface 46 (.int .i64 n), recovered := true }] ∧ w' = w1.setCell p (.int .i64 n) := by
  have herr := priface_err n
  have hta := priface_is n
  refine callsD_of_wpS Tryz.func54 rfl fun c₀ cs hu => ?_
  simp only [Tryz.ntmps54, List.size_toArray, List.length_cons, List.length_nil, Nat.reduceAdd, Nat.reduceSub, Array.replicate_succ,
     Array.replicate_zero, List.push_toArray, List.append_toArray, List.nil_append, List.cons_append]
  apply wpS_seq
  apply wpS_region
  generalize hQ : (Exit.thenS _ _ : Exit → Act → List Frame → World → Prop) = Q
  simp [wpOpsS, go_sem, recoverD, hu]
  subst hQ
  dsimp only [Exit.thenS]
  refine wpS_of_wp ?_
  go_wp2_with fail
  refine hf.mono ?_
  rintro e w' ⟨rfl, rfl⟩
  go_wp2
  exact ⟨rfl, _, by cases c₀; simp_all, .tuple #[], results_none rfl _ _ _, rfl, rfl, rfl⟩
end Go.Proofs.YtiagbejfghincaaGreat
namespace Go.Port
def ebits (off : Bool) (c : Nat) : Nat := if off then c else if c < 16 then 0 else c / 2 - 5
def efirst (off : Bool) (c : Nat) : Nat := if off then 2 ^ c else if c < 16 then c else (2 + c % 2) * 2 ^ (c / 2 - 5)
def ecode (off : Bool) (v : Nat) : Nat := if off then Nat.log2 v else if v < 16 then v else 8 + 2 * Nat.log2 v + v / 2 ^ (Nat.log2 v - 1) % 2
def ecodes (off : Bool) : Nat := if off then 28 else 44
def ebelow (off : Bool) : Nat := if off then 268435456 else 262144
def eleast (off : Bool) : Nat := if off then 1 else 0
theorem ecode_spec {off : Bool} {v : Nat} (h0 : eleast off ≤ v) (h1 : v < ebelow off) : ecode off v < ecodes off ∧ efirst off (ecode off v) ≤ v ∧ v < efirst off (ecode off v + 1) := by
  cases off with
  | true =>
    unfold eleast ebelow at *
    unfold ecode ecodes efirst
    simp only [if_true] at *
    have hv : v ≠ 0 := by omega
    refine ⟨(Nat.log2_lt hv).2 (by omega), log2_lo hv, log2_hi v⟩
  | false =>
    unfold eleast ebelow at *
    unfold ecode ecodes
    simp only [Bool.false_eq_true, if_false] at *
    by_cases hs : v < 16
    · rw [if_pos hs]
      refine ⟨by omega, ?_, ?_⟩
      · unfold efirst; simp only [Bool.false_eq_true, if_false]; rw [if_pos hs]; exact Nat.le_refl _
      · unfold efirst
        simp only [Bool.false_eq_true, if_false]
        split
        · omega
        · obtain rfl : v = 15 := by omega
          decide
    · rw [if_neg hs]
      have hv : v ≠ 0 := by omega
      have hk1 : 4 ≤ Nat.log2 v := (Nat.le_log2 hv).2 (by omega)
      have hk2 : Nat.log2 v < 18 := (Nat.log2_lt hv).2 (by omega)
      have lo := log2_lo hv
      have hi := log2_hi v
      generalize Nat.log2 v = k at *
      obtain ⟨m, rfl⟩ : ∃ m, k = m + 1 := ⟨k - 1, by omega⟩
      rw [Nat.add_sub_cancel] at *
      have hp : 0 < 2 ^ m := Nat.two_pow_pos m
      have e1 : 2 ^ (m + 1) = 2 ^ m * 2 := Nat.pow_succ ..
      have e2 : 2 ^ (m + 1 + 1) = 2 ^ m * 4 := by rw [Nat.pow_succ, e1]; omega
      rw [e1] at lo
      rw [e2] at hi
      have hq1 : 2 ≤ v / 2 ^ m := (Nat.le_div_iff_mul_le hp).2 (by omega)
      have hq2 : v / 2 ^ m < 4 := (Nat.div_lt_iff_lt_mul hp).2 (by omega)
      have hd := Nat.div_add_mod v (2 ^ m)
      have hr := Nat.mod_lt v hp
      have hF : ∀ b, b < 2 → efirst false (8 + 2 * (m + 1) + b) = (2 + b) * 2 ^ m := fun b hb => by
        unfold efirst
        simp only [Bool.false_eq_true, if_false]
        rw [if_neg (by omega), show (8 + 2 * (m + 1) + b) % 2 = b by omega, show (8 + 2 * (m + 1) + b) / 2 - 5 = m by omega]
      have hF2 : efirst false (8 + 2 * (m + 1) + 2) = 4 * 2 ^ m := by
        unfold efirst
        simp only [Bool.false_eq_true, if_false]
        rw [if_neg (by omega), show (8 + 2 * (m + 1) + 2) % 2 = 0 by omega, show (8 + 2 * (m + 1) + 2) / 2 - 5 = m + 1 by omega, e1]
        omega
      generalize 2 ^ m = X at *
      have hc : v / X = 2 ∨ v / X = 3 := by omega
      rcases hc with hc | hc
      · rw [hc] at hd ⊢
        refine ⟨by omega, ?_, ?_⟩
        · rw [hF (2 % 2) (by omega)]; omega
        · rw [show 8 + 2 * (m + 1) + 2 % 2 + 1 = 8 + 2 * (m + 1) + 1 by omega, hF 1 (by omega)]; omega
      · rw [hc] at hd ⊢
        refine ⟨by omega, ?_, ?_⟩
        · rw [hF (3 % 2) (by omega)]; omega
        · rw [show 8 + 2 * (m + 1) + 3 % 2 + 1 = 8 + 2 * (m + 1) + 2 by omega, hF2]; omega
end Go.Port
