/-
  The walks of layer 30: the steps of a greedy plan.
-/
import Derived.Test.YtngphgdoolcpcaaGrG
import Derived.ScopeJumps
namespace Go.Proofs.Ytngphgdoolcpcaa
open Go.RowKit Go.Port

set_option maxRecDepth 100000 in
set_option maxHeartbeats 4000000 in
theorem gsteps_ok (bs : List UInt8) (A : Nat) (W D : Int) (F : Nat) (p least : Int) (w : World) (h : FdAt 57 119 bs A W D F w) (he : fromE bs A p least = 0) :
    Calls Try.prog 31 #[.pointer (some ⟨F, 0, none⟩), .int .i64 p, .int .i64 least] w fun e w' => ∃ v, e = .returned (.tuple #[v, .int .i64 0]) ∧ w'.ownsRow w.heap.size 72 4 v (fromL bs A W D p least).length ((fromL bs A W D p least).flatMap stc) ∧ Below w.heap.size w w' := by
  have hl : fromL bs A W D p least = planS (greedyA (findS bs A W D) least) ((bs.length : Int) - A) p p := by unfold fromL; rw [he, if_pos rfl]; rfl
  rw [hl]
  have hp : 3 ≤ least ∧ 0 ≤ p ∧ p ≤ (bs.length : Int) - A := by
    unfold fromE at he
    split at he
    · cases he
    · split at he
      · cases he
      · omega
  obtain ⟨hp1, hp2, hp3⟩ := hp
  have HDe := hid (cdepth_any bs A W D F w h)
  have HLe := hid (clen_any bs A W D F w h)
  have hD := h.hD.1
  have HGa := hid (fun W' (hW' : Below w.heap.size w W') Wk hWk hk => ggath_any bs A W D F Wk p least w W' h hW' hWk hk hp2)
  have hDn : ¬ D = 0 := by omega
  have hDb : (D == 0) = false := beq_eq_false_iff_ne.2 hDn
  clear h he hl hD
  generalize planS (greedyA (findS bs A W D) least) ((bs.length : Int) - A) p p = L at *
  generalize (bs.length : Int) - (A : Int) = size at *
  go_enter Try.func31, Try.ntmps31
  go_wp2_with fail
  refine wp_scope_straight ?_
  go_wp2_with fail
  refine HDe.out.mono ?_
  rintro e w' ⟨rfl, rfl⟩
  go_wp2_with fail
  refine HLe.out.mono ?_
  rintro e w' ⟨rfl, m, rfl⟩
  have hk := Blk.new (w.drewN m) [.pointer (some ⟨F, 0, none⟩), .int .i64 p, .int .i64 p, .int .i64 least] 94
  have hb := (below_drewN (Below.refl w.heap.size w) m).alloc (Nat.le_refl _) (.cells #[.pointer (some ⟨F, 0, none⟩), .int .i64 p, .int .i64 p, .int .i64 least] 94)
  have HCall := hid (HGa.out _ hb _ (Nat.le_refl _) hk)
  have HB := hid hb
  clear hk hb HGa HLe HDe
  go_wp2_with fail
  refine HCall.out.mono ?_
  rintro e w2 ⟨v, rfl, hown, hg⟩
  have HO := hid (own_le hown (show w.heap.size ≤ _ from HB.out.size))
  have HB2 := hid (HB.out.grown hg HB.out.size (fun k e => by cases e; exact Nat.le_refl _))
  clear hown hg HCall
  go_wp2
  simp only [Exit.noGoto_ret]
  go_ret2
  exact ⟨_, rfl, HO.out, HB2.out⟩

set_option maxRecDepth 100000 in
set_option maxHeartbeats 4000000 in
theorem gsteps_bad (bs : List UInt8) (A : Nat) (W D : Int) (F : Nat) (p least : Int) (w : World) (h : FdAt 57 119 bs A W D F w) (he : fromE bs A p least ≠ 0) :
    Calls Try.prog 31 #[.pointer (some ⟨F, 0, none⟩), .int .i64 p, .int .i64 least] w fun e w' => e = .returned (.tuple #[.slice none 0 0, .int .i64 (fromE bs A p least)]) ∧ ∃ m, w' = w.drewN m := by
  have HDe := hid (cdepth_any bs A W D F w h)
  have HLe := hid (clen_any bs A W D F w h)
  have hD := h.hD.1
  have hDn : ¬ D = 0 := by omega
  have hDb : (D == 0) = false := beq_eq_false_iff_ne.2 hDn
  clear h hD
  obtain ⟨E, hE⟩ : ∃ E, fromE bs A p least = E := ⟨_, rfl⟩
  rw [hE]
  have hc : (least < 3 ∧ E = 2) ∨ (3 ≤ least ∧ p < 0 ∧ E = 21) ∨ (3 ≤ least ∧ 0 ≤ p ∧ (bs.length : Int) - (A : Int) < p ∧ E = 21) := by
    unfold fromE at hE he
    split at hE
    · left; omega
    · split at hE
      · right; rename_i h1 h2; omega
      · rename_i h1 h2; rw [if_neg h1, if_neg h2] at he; exact absurd rfl he
  clear hE he
  generalize (bs.length : Int) - (A : Int) = size at *
  go_enter Try.func31, Try.ntmps31
  go_wp2_with fail
  refine wp_scope_jumps 0 (fun a' w' => (∃ x0 x1 x2 x3 x4 x5 x6 x8 x9 x10 x11 x12 x13 x14 x15 x16 x17 x18 x19 x20 x21 x22 x23 x24 x25 x26 x27 x28 x29 x30 x31 : Value, a' = { tmps := #[x0, x1, x2, x3, x4, x5, x6, .int .i64 E, x8, x9, x10, x11, x12, x13, x14, x15, x16, x17, x18, x19, x20, x21, x22, x23, x24, x25, x26, x27, x28, x29, x30, x31], defers := [] }) ∧ ∃ m, w' = w.drewN m) (fun _ _ => 0) rfl ?first ?pass
  case first =>
    rcases hc with ⟨h1, rfl⟩ | ⟨h1, h2, rfl⟩ | ⟨h1, h2, h3, rfl⟩
    · go_wp2_with fail
      refine HDe.out.mono ?_
      rintro e w' ⟨rfl, rfl⟩
      go_wp2_with fail
      refine wp_goto ?_
      refine And.intro (rfl : 0 = 0) ?_
      refine ⟨?_, 0, rfl⟩
      repeat apply Exists.intro
      rfl
    · go_wp2_with fail
      refine HDe.out.mono ?_
      rintro e w' ⟨rfl, rfl⟩
      go_wp2_with fail
      refine wp_goto ?_
      refine And.intro (rfl : 0 = 0) ?_
      refine ⟨?_, 0, rfl⟩
      repeat apply Exists.intro
      rfl
    · go_wp2_with fail
      refine HDe.out.mono ?_
      rintro e w' ⟨rfl, rfl⟩
      go_wp2_with fail
      refine HLe.out.mono ?_
      rintro e w' ⟨rfl, m, rfl⟩
      go_wp2_with fail
      refine wp_goto ?_
      refine And.intro (rfl : 0 = 0) ?_
      refine ⟨?_, m, rfl⟩
      repeat apply Exists.intro
      rfl
  case pass =>
    rintro a1 w1 ⟨⟨x0, x1, x2, x3, x4, x5, x6, x8, x9, x10, x11, x12, x13, x14, x15, x16, x17, x18, x19, x20, x21, x22, x23, x24, x25, x26, x27, x28, x29, x30, x31, rfl⟩, m, rfl⟩
    go_wp2
    simp only [Exit.jump]
    go_ret2
    exact ⟨rfl, m, rfl⟩

set_option maxRecDepth 100000 in
set_option maxHeartbeats 4000000 in
theorem gsteps_none (q : Option Addr) (p least : Int) (w : World) (h : NoFd q w) :
    Calls Try.prog 31 #[.pointer q, .int .i64 p, .int .i64 least] w fun e w' => e = .returned (.tuple #[.slice none 0 0, .int .i64 1]) ∧ w = w' := by
  have HDe := hid (cdepth_none q w h)
  clear h
  go_enter Try.func31, Try.ntmps31
  go_wp2_with fail
  refine wp_scope_jumps 0 (fun a' w' => (∃ x0 x1 x2 x3 x4 x5 x6 x8 x9 x10 x11 x12 x13 x14 x15 x16 x17 x18 x19 x20 x21 x22 x23 x24 x25 x26 x27 x28 x29 x30 x31 : Value, a' = { tmps := #[x0, x1, x2, x3, x4, x5, x6, .int .i64 1, x8, x9, x10, x11, x12, x13, x14, x15, x16, x17, x18, x19, x20, x21, x22, x23, x24, x25, x26, x27, x28, x29, x30, x31], defers := [] }) ∧ w = w') (fun _ _ => 0) rfl ?first ?pass
  case first =>
    go_wp2_with fail
    refine HDe.out.mono ?_
    rintro e w' ⟨rfl, rfl⟩
    go_wp2_with fail
    refine wp_goto ?_
    refine And.intro (rfl : 0 = 0) ?_
    refine ⟨?_, rfl⟩
    repeat apply Exists.intro
    rfl
  case pass =>
    rintro a1 w1 ⟨⟨x0, x1, x2, x3, x4, x5, x6, x8, x9, x10, x11, x12, x13, x14, x15, x16, x17, x18, x19, x20, x21, x22, x23, x24, x25, x26, x27, x28, x29, x30, x31, rfl⟩, rfl⟩
    go_wp2
    simp only [Exit.jump]
    go_ret2
    exact ⟨rfl, rfl⟩
end Go.Proofs.Ytngphgdoolcpcaa
