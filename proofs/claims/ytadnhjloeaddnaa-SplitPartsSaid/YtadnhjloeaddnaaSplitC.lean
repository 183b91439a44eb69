/-
  The walks of the split, third part: the deferred 'caught', the check of cut points.
-/
import Derived.Test.YtadnhjloeaddnaaSplitB
import Derived.Recover
import Derived.Defers
import Derived.Laws.Pointers
namespace Go.Proofs.Ytadnhjloeaddnaa
open Go.RowKit Go.Port

theorem nop_any (w : World) : Calls Try.prog 34 #[] w fun e w' => e = .returned (.tuple #[]) ∧ w = w' := by
  go_enter Try.func34, Try.ntmps34
  go_wp2
  go_end0
  exact ⟨rfl, rfl⟩

theorem iface_nil (w : World) : (binOp BinOp.neq 20 .nilIface .nilIface).run Try.prog w = .ok (.bool false) w := by kernel_rfl
theorem iface_err (n : Int) (w : World) : (binOp BinOp.neq 20 (.iface 40 (.int .i64 n)) .nilIface).run Try.prog w = .ok (.bool true) w := by kernel_rfl
theorem iface_is (n : Int) (w : World) : (Instr.typeAssert (.iface 40 (.int .i64 n)) 20 40 true).run Try.prog w = .ok (.tuple #[.int .i64 n, .bool true]) w := by kernel_rfl

set_option maxRecDepth 100000 in
set_option maxHeartbeats 400000 in
theorem caught_idle (p : Addr) (v : Value) (w : World) :
    CallsD Try.prog 33 #[.pointer (some p), v] .returning w fun e u' w' => e = .returned (.tuple #[]) ∧ u' = .returning ∧ w' = w := by
  have hnil := iface_nil
  refine callsD_of_wpS Try.func33 rfl fun c₀ cs hu => ?_
  simp only [Try.ntmps33, List.size_toArray, List.length_cons, List.length_nil, Nat.reduceAdd, Nat.reduceSub, Array.replicate_succ,
     Array.replicate_zero, List.push_toArray, List.append_toArray, List.nil_append, List.cons_append]
  apply wpS_seq
  apply wpS_region
  generalize hQ : (Exit.thenS _ _ : Exit → Act → List Frame → World → Prop) = Q
  simp [wpOpsS, go_sem, recoverD, hu]
  subst hQ
  dsimp only [Exit.thenS]
  refine wpS_of_wp ?_
  go_wp2
  exact ⟨rfl, .returning, by cases c₀; simp_all, .tuple #[], results_none rfl _ _ _, rfl, rfl, rfl⟩

set_option maxRecDepth 100000 in
set_option maxHeartbeats 400000 in
theorem caught_check (p : Addr) (x : Int) (w : World) (hc : w.cell? p = some (.int .i64 x)) (hz : w.frozen? p = false) :
    CallsD Try.prog 33 #[.pointer (some p), .func (.func 34) #[] #[]] (.panicking [{ v := .iface 40 (.int .i64 2), recovered := false }]) w fun e u' w' =>
      e = .returned (.tuple #[]) ∧ u' = .panicking [{ v := .iface 40 (.int .i64 2), recovered := true }] ∧ w' = w.setCell p (.int .i64 2) := by
  have herr := iface_err 2
  have hta := iface_is 2
  refine callsD_of_wpS Try.func33 rfl fun c₀ cs hu => ?_
  simp only [Try.ntmps33, List.size_toArray, List.length_cons, List.length_nil, Nat.reduceAdd, Nat.reduceSub, Array.replicate_succ,
     Array.replicate_zero, List.push_toArray, List.append_toArray, List.nil_append, List.cons_append]
  apply wpS_seq
  apply wpS_region
  generalize hQ : (Exit.thenS _ _ : Exit → Act → List Frame → World → Prop) = Q
  simp [wpOpsS, go_sem, recoverD, hu]
  subst hQ
  dsimp only [Exit.thenS]
  refine wpS_of_wp ?_
  go_wp2_with (go_at_call 34; refine (nop_any _).mono ?_; rintro e w' ⟨rfl, rfl⟩)
  exact ⟨rfl, _, by cases c₀; simp_all, .tuple #[], results_none rfl _ _ _, rfl, rfl, rfl⟩

set_option maxRecDepth 100000 in
set_option maxHeartbeats 800000 in
theorem check_any (size most : Int) (a : Option Addr) (n c : Nat) (cuts : List Int) (w : World) (hs0 : -9223372036854775808 ≤ size) (hs1 : size ≤ 9223372036854775807) (hn : cuts.length = n) (hnm : n ≤ maxLen)
    (hc : ∀ j u, (cuts.map iv)[j]? = some u → ∃ b off, a = some ⟨b, off, none⟩ ∧ b < w.heap.size ∧ w.cell? ⟨b, off + j, none⟩ = some u) :
    Calls Try.prog 23 #[.int .i64 size, .int .i64 most, .slice a n c] w (RetV w (.int .i64 (if riseB (max 0 size) 0 cuts = true ∧ mayB (heldI most) (max 0 size) 0 cuts = true then 0 else 2))) := by
  have hh := heldI_bounds most
  have hm0 : 0 ≤ max 0 size := by omega
  have hm1 : max 0 size ≤ 9223372036854775807 := by omega
  have hc1 := fun (j : Nat) (u : Value) (hu : (cuts.map iv)[j]? = some u) => (show ∃ b off, a = some ⟨b, off, none⟩ ∧ b < (w.alloc (.cells #[.int .i64 0] 40)).heap.size ∧ (w.alloc (.cells #[.int .i64 0] 40)).cell? ⟨b, off + j, none⟩ = some u from by
      obtain ⟨b, off, h1, h2, h3⟩ := hc j u hu
      exact ⟨b, off, h1, Nat.lt_of_lt_of_le h2 (below_new w _).size, ((below_new w _).cell (p := ⟨b, off + j, none⟩) h2).trans h3⟩)
  have HH := hid (held_any most)
  cases hr : risesGo (max 0 size) cuts 0 0 with
  | none =>
    have hb := (rises_none (max 0 size) cuts 0 0).1 hr
    rw [hb, if_neg (by simp)]
    have HR := hid (rises_no (max 0 size) a n c cuts (w.alloc (.cells #[.int .i64 0] 40)) hm0 hm1 hn hnm hc1 hr)
    clear hc hc1 hr hb
    go_enter_defers Try.func23, Try.ntmps23
    go_wp2_with (first
      | (go_at_call 36; refine HR.out.mono ?_; rintro e w' ⟨rfl, rfl⟩)
      | (go_at_call 32; refine (HH.out _).mono ?_; rintro e w' ⟨rfl, rfl⟩))
    refine leaves_cons (f := 33) (args := #[.pointer (some ⟨w.heap.size, 0, none⟩), .func (.func 34) #[] #[]]) (by simp) (by simp [go_sem]) ?_
    refine (caught_check ⟨w.heap.size, 0, none⟩ 0 _ (Blk.cell (Blk.new w [Value.int .i64 0] 40) (k := 0) rfl) (Blk.frozen (Blk.new w [Value.int .i64 0] 40) 0)).mono ?_
    rintro e u' w'' ⟨rfl, rfl, rfl⟩
    refine ⟨_, ?_, rfl, (below_new w _).setCell (Nat.le_refl _) _⟩
    simp [results, Try.results23, go_sem]
  | some x =>
    have hb : riseB (max 0 size) 0 cuts = true := by
      cases hb : riseB (max 0 size) 0 cuts with
      | true => rfl
      | false => rw [(rises_none (max 0 size) cuts 0 0).2 hb] at hr; cases hr
    have hle := rises_le (max 0 size) cuts 0 0 x (heldI most) hr
    have HR := hid (rises_ok (max 0 size) x a n c cuts (w.alloc (.cells #[.int .i64 0] 40)) hm0 hm1 hn hnm hc1 hr)
    by_cases hx : x ≤ heldI most
    · rw [if_pos ⟨hb, (hle.1 hx).2⟩]
      clear hc hc1 hr hb hle
      go_enter_defers Try.func23, Try.ntmps23
      go_wp2_with (first
        | (go_at_call 36; refine HR.out.mono ?_; rintro e w' ⟨rfl, rfl⟩)
        | (go_at_call 32; refine (HH.out _).mono ?_; rintro e w' ⟨rfl, rfl⟩)
        | (go_at_call 35; refine (must_yes _).mono ?_; rintro e w' ⟨rfl, rfl⟩))
      refine leaves_cons (f := 33) (args := #[.pointer (some ⟨w.heap.size, 0, none⟩), .func (.func 34) #[] #[]]) (by simp) (by simp [go_sem]) ?_
      refine (caught_idle ⟨w.heap.size, 0, none⟩ _ _).mono ?_
      rintro e u' w'' ⟨rfl, rfl, rfl⟩
      refine ⟨_, ?_, rfl, below_new w _⟩
      simp [results, Try.results23, go_sem]
    · rw [if_neg (fun h => hx (hle.2 ⟨by omega, h.2⟩))]
      have t1 : decide (x ≤ heldI most) = false := by simpa using hx
      clear hc hc1 hr hb hle
      go_enter_defers Try.func23, Try.ntmps23
      go_wp2_with (first
        | (go_at_call 36; refine HR.out.mono ?_; rintro e w' ⟨rfl, rfl⟩)
        | (go_at_call 32; refine (HH.out _).mono ?_; rintro e w' ⟨rfl, rfl⟩)
        | (go_at_call 35; refine (must_no _).mono ?_; rintro e w' ⟨rfl, rfl⟩))
      refine leaves_cons (f := 33) (args := #[.pointer (some ⟨w.heap.size, 0, none⟩), .func (.func 34) #[] #[]]) (by simp) (by simp [go_sem]) ?_
      refine (caught_check ⟨w.heap.size, 0, none⟩ 0 _ (Blk.cell (Blk.new w [Value.int .i64 0] 40) (k := 0) rfl) (Blk.frozen (Blk.new w [Value.int .i64 0] 40) 0)).mono ?_
      rintro e u' w'' ⟨rfl, rfl, rfl⟩
      refine ⟨_, ?_, rfl, (below_new w _).setCell (Nat.le_refl _) _⟩
      simp [results, Try.results23, go_sem]
end Go.Proofs.Ytadnhjloeaddnaa
