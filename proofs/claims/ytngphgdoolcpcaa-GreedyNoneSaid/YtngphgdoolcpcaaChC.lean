/-
  The walks of layer 29: New with invalid arguments.
-/
import Derived.Test.YtngphgdoolcpcaaChB
namespace Go.Proofs.Ytngphgdoolcpcaa
open Go.RowKit Go.Port

set_option maxRecDepth 100000 in
set_option maxHeartbeats 4000000 in
theorem cnew_bad (a1 a2 : Option Addr) (n1 n2 c1 c2 : Nat) (W dep : Int) (w : World) (h : finderOk n2 W dep = false) :
    Calls Try.prog 26 #[.slice a1 n1 c1, .slice a2 n2 c2, .int .i64 W, .int .i64 dep] w fun e w' => e = .returned (.tuple #[.pointer none, .int .i64 2]) ∧ w = w' := by
  have hc : W < 1 ∨ (1 ≤ W ∧ 134217728 < W) ∨ (1 ≤ W ∧ W ≤ 134217728 ∧ dep < 1) ∨ (1 ≤ W ∧ W ≤ 134217728 ∧ 1 ≤ dep ∧ 4096 < dep) ∨ (1 ≤ W ∧ W ≤ 134217728 ∧ 1 ≤ dep ∧ dep ≤ 4096 ∧ 131072 < (n2 : Int)) := by
    unfold finderOk at h
    simp only [Bool.and_eq_false_iff, decide_eq_false_iff_not] at h
    omega
  clear h
  go_enter Try.func26, Try.ntmps26
  go_wp2_with fail
  refine wp_scope_jumps 0 (fun a' w' => (∃ x0 x1 x2 x3 x4 x5 x6 x7 x8 x10 x11 x12 x13 x14 x15 x16 x17 x18 x19 x20 x21 x22 x23 x24 x25 x26 x27 x28 x29 x30 x31 x32 x33 x34 x35 x36 x37 x38 x39 x40 x41 x42 x43 x44 x45 x46 x47 x48 x49 x50 x51 x52 x53 x54 x55 x56 x57 x58 : Value, a' = { tmps := #[x0, x1, x2, x3, x4, x5, x6, x7, x8, .int .i64 2, x10, x11, x12, x13, x14, x15, x16, x17, x18, x19, x20, x21, x22, x23, x24, x25, x26, x27, x28, x29, x30, x31, x32, x33, x34, x35, x36, x37, x38, x39, x40, x41, x42, x43, x44, x45, x46, x47, x48, x49, x50, x51, x52, x53, x54, x55, x56, x57, x58], defers := [] }) ∧ w = w') (fun _ _ => 0) rfl ?first ?pass
  case first =>
    rcases hc with h | ⟨h1, h2⟩ | ⟨h1, h2, h3⟩ | ⟨h1, h2, h3, h4⟩ | ⟨h1, h2, h3, h4, h5⟩
    all_goals
      go_wp2
      refine wp_goto ?_
      refine And.intro (rfl : 0 = 0) ?_
      refine ⟨?_, rfl⟩
      repeat apply Exists.intro
      rfl
  case pass =>
    rintro a1 w1 ⟨⟨x0, x1, x2, x3, x4, x5, x6, x7, x8, x10, x11, x12, x13, x14, x15, x16, x17, x18, x19, x20, x21, x22, x23, x24, x25, x26, x27, x28, x29, x30, x31, x32, x33, x34, x35, x36, x37, x38, x39, x40, x41, x42, x43, x44, x45, x46, x47, x48, x49, x50, x51, x52, x53, x54, x55, x56, x57, x58, rfl⟩, rfl⟩
    go_wp2
    simp only [Exit.jump]
    go_ret2
    exact ⟨rfl, rfl⟩
end Go.Proofs.Ytngphgdoolcpcaa
