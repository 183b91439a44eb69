/-
  The walks of layer 29, first part: slices.Grow and slices.Concat.
-/
import Derived.Test.YtngphgdoolcpcaaIxE
import Derived.Lib.AppendZeros
import Derived.LoopN
namespace Go.Proofs.Ytngphgdoolcpcaa
open Go.RowKit Go.Port

set_option maxHeartbeats 800000 in
set_option maxRecDepth 100000 in
theorem xgrow_any (n : Nat) (w : World) (hn : n ≤ 10000000) :
    Calls Try.prog 60 #[.slice none 0 0, .int .i64 n] w fun e w' => ∃ v, e = .returned v ∧ w'.ownsRow w.heap.size 5 1 v 0 [] ∧ Below w.heap.size w w' := by
  by_cases h0 : n = 0
  · subst h0
    go_enter Try.func60, Try.ntmps60
    go_wp2
    go_ret
    exact ⟨_, rfl, World.ownsRow_nil _ _ _ _, Below.refl _ _⟩
  · have hp : 0 < (n : Int) := by omega
    obtain ⟨i0, hi0, hz0, hz1, hz2⟩ := info_parts Try.info_byte
    have hrun := Lib.run_append_nil_zeros (P := Try.prog) w 22 3 22 5 i0 (.int .u8 0) .i64 .i64 Try.underlying22 Try.underlying3 hi0 hz0 n (by omega) (by omega) (by omega) (by rw [hz2]; omega)
    have hge := grownCap_ge w n 0 5
    have hle := grownCap_le_maxLen w n 0 5 (by unfold maxLen; omega)
    generalize hcap : grownCap w n 0 5 = cap at *
    have hmx : cap ≤ 2 ^ 63 - 1 := by unfold maxLen at hle; exact hle
    have hcl : (cap : Int) ≤ 9223372036854775807 := by omega
    have hown : (w.drew.alloc (.cells (Builtin.zeroCells (Value.int .u8 0).cells n ++ Builtin.zeroCells (Value.int .u8 0).cells (cap - n)) 5)).ownsRow w.heap.size 5 1 (.slice (some ⟨w.heap.size, 0, none⟩) 0 cap) 0 [] := by
      refine ⟨rfl, .inr ⟨w.heap.size, cap, _, rfl, Nat.le_refl _, World.alloc_heap_new w.drew _, Nat.zero_le _, hle, ?_, by simp⟩⟩
      simp [Builtin.zeroCells, Value.cells]
      omega
    have HO := hid hown
    have HB := hid (show Below w.heap.size w (w.drew.alloc (.cells (Builtin.zeroCells (Value.int .u8 0).cells n ++ Builtin.zeroCells (Value.int .u8 0).cells (cap - n)) 5)) from (Below.refl _ _).drew.alloc (Nat.le_refl _) _)
    generalize (Obj.cells (Builtin.zeroCells (Value.int .u8 0).cells n ++ Builtin.zeroCells (Value.int .u8 0).cells (cap - n)) 5) = ob at *
    have HRun := hid hrun
    have hpc : 0 < (cap : Int) := by omega
    have hnI : (n : Int) ≤ 10000000 := by omega
    clear hrun hi0 hz0 hz1 hz2 hle hcap hown hmx hge hn h0
    go_enter Try.func60, Try.ntmps60
    go_wp2_with (at_builtin; refine Lib.wpList_append_run _ rfl _ _ _ _ rfl _ _ rfl rfl _ _ HRun.out ?_)
    go_ret
    exact ⟨_, rfl, HO.out, HB.out⟩

set_option maxRecDepth 100000 in
set_option maxHeartbeats 2000000 in
theorem xconcat_any (p : Nat) (a1 a2 : Option Addr) (c1 c2 : Nat) (A B : List UInt8) (w : World) (hA : A.length ≤ 1000000) (hB : B.length ≤ 1000000) (h1 : A.length ≤ c1) (h2 : B.length ≤ c2) (h3 : a1 = none → c1 = 0) (h4 : a2 = none → c2 = 0)
    (hp : Blk w p [.slice a1 A.length c1, .slice a2 B.length c2] 22) (hc1 : CellsAt w a1 (A.map bv)) (hc2 : CellsAt w a2 (B.map bv)) :
    Calls Try.prog 39 #[.slice (some ⟨p, 0, none⟩) 2 2] w fun e w' => ∃ v, e = .returned v ∧ w'.ownsRow w.heap.size 5 1 v (A ++ B).length ((A ++ B).map bv) ∧ Below w.heap.size w w' := by
  have p0 := hp.cell (k := 0) rfl
  have p1 := hp.cell (k := 1) rfl
  have HP := hid hp
  have HG := hid (xgrow_any (A.length + B.length) w (by omega))
  have HC1 := hid hc1
  have HC2 := hid hc2
  have hAI : (A.length : Int) ≤ 1000000 := by omega
  have hBI : (B.length : Int) ≤ 1000000 := by omega
  clear hp hc1 hc2 hA hB
  go_enter Try.func39, Try.ntmps39
  go_wp2_with fail
  refine wp_loop_rounds 3 ?_
  rw [rounds_succ]
  go_wp2_with fail
  rw [rounds_succ]
  go_wp2_with fail
  rw [rounds_succ]
  go_wp2_with fail
  clear p0 p1
  refine HG.out.mono ?_
  rintro e w1 ⟨v1, rfl, hown1, hb1⟩
  have hp1 := HP.out.below hb1 HP.out.lt
  have q0 := hp1.cell (k := 0) rfl
  have q1 := hp1.cell (k := 1) rfl
  have HP1 := hid hp1
  have HO1 := hid hown1
  have HB1 := hid hb1
  have HD1 := hid (HC1.out.low hb1)
  have hs1 : w.heap.size ≤ w1.heap.size := hb1.size
  clear hp1 hown1 hb1
  obtain ⟨g1, k1, rfl⟩ := own_slice HO1.out
  go_wp2_with fail
  refine wp_loop_rounds 3 ?_
  rw [rounds_succ]
  go_wp2_with (at_builtin; refine Hid.out ?_)
  refine hid ?_
  refine wpList_appendsK rfl _ _ 22 rfl 5 _ 1 1 Try.underlying22 Try.info_byte rfl (by decide) (by decide) w1 w.heap.size _ 0 A.length c1 a1 [] (A.map bv) (by simp) ?hu rfl rfl h1 h3 (by exact HD1.out) (by exact HO1.out) ?hn hs1 ?hk
  case hu =>
    intro u hu
    obtain ⟨x, _, rfl⟩ := List.mem_map.1 hu
    rfl
  case hn => omega
  case hk =>
    intro v2 w2 hown2 hg2
    rw [List.nil_append, Nat.zero_add] at hown2
    have hb2 := HB1.out.trans (below_grown HO1.out hg2 hs1)
    have hp2 := HP.out.below hb2 HP.out.lt
    have q1 := hp2.cell (k := 1) rfl
    have HO2 := hid hown2
    have HB2 := hid hb2
    have HD2 := hid (HC2.out.low hb2)
    have hs2 : w.heap.size ≤ w2.heap.size := hb2.size
    clear hp2 hown2 hb2 hg2
    obtain ⟨g2, k2, rfl⟩ := own_slice HO2.out
    go_wp2_with fail
    rw [rounds_succ]
    go_wp2_with (at_builtin; refine Hid.out ?_)
    refine hid ?_
    refine wpList_appendsK rfl _ _ 22 rfl 5 _ 1 1 Try.underlying22 Try.info_byte rfl (by decide) (by decide) w2 w.heap.size _ A.length B.length c2 a2 (A.map bv) (B.map bv) (by simp) ?hu2 rfl rfl h2 h4 (by exact HD2.out) (by exact HO2.out) ?hn2 hs2 ?hk2
    case hu2 =>
      intro u hu
      obtain ⟨x, _, rfl⟩ := List.mem_map.1 hu
      rfl
    case hn2 => omega
    case hk2 =>
      intro v3 w3 hown3 hg3
      have HB3 := hid (HB2.out.trans (below_grown HO2.out hg3 hs2))
      have HO3 := hid hown3
      clear hown3 hg3
      go_wp2_with fail
      rw [rounds_succ]
      go_wp2_with fail
      go_ret
      refine ⟨_, rfl, ?_, HB3.out⟩
      rw [List.map_append, List.length_append]
      exact HO3.out
end Go.Proofs.Ytngphgdoolcpcaa
