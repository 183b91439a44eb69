/-
  The walks of layer 27, first part: the keys of the map; New, none, of, from.
-/
import Derived.Test.YtngphgdoolcpcaaMem
import Derived.Test.YtngphgdoolcpcaaKMap
import Derived.Test.YtngphgdoolcpcaaMPlain
import Derived.Test.YtngphgdoolcpcaaChecked
import Derived.Laws.CopyOwn
namespace Go.Port
open Go.RowKit
def kv (K : Key3) : Value := .agg #[bv K.1, bv K.2.1, bv K.2.2, bv 0, bv 0, bv 0, bv 0, bv 0]
theorem bv_inj {x y : UInt8} (h : bv x = bv y) : x = y := by
  unfold bv at h
  simp only [Value.int.injEq, true_and] at h
  exact UInt8.toNat_inj.1 (by omega)
theorem kv_eq (K : Key3) : kv K = .agg #[.int .u8 (K.1.toNat : Int), .int .u8 (K.2.1.toNat : Int), .int .u8 (K.2.2.toNat : Int), .int .u8 0, .int .u8 0, .int .u8 0, .int .u8 0, .int .u8 0] := by
  unfold kv bv
  rfl
theorem kv_inj {K K' : Key3} (h : kv K = kv K') : K = K' := by
  obtain ⟨a, b, c⟩ := K
  obtain ⟨a', b', c'⟩ := K'
  unfold kv at h
  simp only [Value.agg.injEq, Array.mk.injEq, List.cons.injEq, and_true] at h
  obtain ⟨h1, h2, h3⟩ := h
  rw [bv_inj h1, bv_inj h2, bv_inj h3]
theorem bv_wf (x : UInt8) : (Lit.int .u8 (x.toNat : Int)).wf = true := by
  have := x.toNat_lt
  simp [Lit.wf, IntKind.min, IntKind.max, IntKind.signed, IntKind.bits]
  omega
end Go.Port
namespace Go.Proofs.Ytngphgdoolcpcaa
open Go.RowKit Go.Port Go.WideMaps

theorem Try.keyLaw : KeyLaw Try.prog 121 := deep_law_gate (by kernel_rfl) (by decide +kernel) (by decide +kernel) (by kernel_rfl) (by kernel_rfl)
theorem Try.keyed (K : Key3) : ∃ l, keyOf Try.prog 121 (kv K) = some l := by
  have h := Try.underlying121
  have h8 := Try.underlying5
  have hc : Try.prog.cellsOf 121 = 8 := by kernel_rfl
  have hc8 : Try.prog.cellsOf 5 = 1 := by kernel_rfl
  have hk : Try.prog.keyType 121 = true := by kernel_rfl
  have hr : List.range 8 = [0, 1, 2, 3, 4, 5, 6, 7] := rfl
  unfold keyOf
  have h0 : 0 < Try.prog.types.size := by decide +kernel
  obtain ⟨m, hm⟩ : ∃ m, Try.prog.types.size + 1 = m + 1 + 1 := ⟨Try.prog.types.size - 1, by omega⟩
  rw [hm, h]
  clear hm
  have h00 : (Lit.int .u8 0).wf = true := by decide
  simp [hk, Value.formed, h, hc, kv, Value.cells, Program.keyLits, hr, hc8, h8, bv, bv_wf, h00]

/-- An index in memory that is not nil: its cells. -/
theorem xnone_any (X : Nat) (vs : List Value) (k : Int) (w : World) (h : Blk w X vs 119) (h1 : vs[1]? = some (.int .i64 k)) (hk : k ≠ 0) :
    Calls Try.prog 64 #[.pointer (some ⟨X, 0, none⟩)] w fun e w' => e = .returned (.bool false) ∧ w = w' := by
  have c1 := h.cell h1
  have hd : (k == 0) = false := by simpa using hk
  have hd2 : decide (k = 0) = false := by simpa using hk
  go_enter Try.func64, Try.ntmps64
  go_wp2
  go_ret
  exact ⟨rfl, rfl⟩
theorem xnone_nil (w : World) :
    Calls Try.prog 64 #[.pointer none] w fun e w' => e = .returned (.bool true) ∧ w = w' := by
  go_enter Try.func64, Try.ntmps64
  go_wp2
  go_ret
  exact ⟨rfl, rfl⟩

theorem xnew_any (w : World) :
    Calls Try.prog 43 #[.int .i64 3] w fun e w' => ∃ X m1 m2, e = .returned (.tuple #[.pointer (some ⟨X, 0, none⟩), .int .i64 0]) ∧ X ≠ m1 ∧ X ≠ m2 ∧ m1 ≠ m2 ∧ w.heap.size ≤ X ∧ w.heap.size ≤ m1 ∧ w.heap.size ≤ m2 ∧
      Blk w' X [.slice none 0 0, .int .i64 3, .map (some m1), .map (some m2), .slice none 0 0] 119 ∧ KMap kv w' m1 (fun _ => none) ∧ KMap kv w' m2 (fun _ => none) ∧ Below w.heap.size w w' := by
  have hmm := @run_makeMap Try.prog
  go_enter Try.func43, Try.ntmps43
  go_wp2
  go_ret2
  refine ⟨w.heap.size + 2, w.heap.size, w.heap.size + 1, rfl, by omega, by omega, by omega, by omega, by omega, by omega, ?_, ?_, ?_, ?_⟩
  · have := Blk.new ((w.alloc (.map #[] 0)).alloc (.map #[] 0)) [.slice none 0 0, .int .i64 3, .map (some w.heap.size), .map (some (w.heap.size + 1)), .slice none 0 0] 119
    rwa [show ((w.alloc (.map #[] 0)).alloc (.map #[] 0)).heap.size = w.heap.size + 2 from by simp] at this
  · exact ((KMap.new kv w).low (below_new _ _)).low (below_new _ _)
  · have := KMap.new kv (w.alloc (.map #[] 0))
    rw [show (w.alloc (.map #[] 0)).heap.size = w.heap.size + 1 from by simp] at this
    exact this.low (below_new _ _)
  · exact ((below_new w _).alloc (by simp) _).alloc (by simp; omega) _

set_option maxRecDepth 100000 in
set_option maxHeartbeats 400000 in
theorem xof_any (X : Nat) (vs : List Value) (bl off c : Nat) (K : Key3) (w : World) (h : Blk w X vs 119) (h1 : vs[1]? = some (.int .i64 3))
    (hb : bl < w.heap.size) (c0 : w.cell? ⟨bl, off, none⟩ = some (bv K.1)) (c1 : w.cell? ⟨bl, off + 1, none⟩ = some (bv K.2.1)) (c2 : w.cell? ⟨bl, off + 2, none⟩ = some (bv K.2.2)) :
    Calls Try.prog 65 #[.pointer (some ⟨X, 0, none⟩), .slice (some ⟨bl, off, none⟩) 3 c] w (RetV w (kv K)) := by
  have k1 := h.cell h1
  have hX := h.lt
  have hcp : ∃ w1, (Builtin.copy_ #[22, 22] 3 #[.slice (some ⟨w.heap.size, 0, none⟩) 3 8, .slice (some ⟨bl, off, none⟩) 3 c]).run Try.prog (w.alloc (.cells #[.int .u8 0, .int .u8 0, .int .u8 0, .int .u8 0, .int .u8 0, .int .u8 0, .int .u8 0, .int .u8 0] 121)) = .ok (.int .i64 3) w1 ∧
      Blk w1 w.heap.size [bv K.1, bv K.2.1, bv K.2.2, .int .u8 0, .int .u8 0, .int .u8 0, .int .u8 0, .int .u8 0] 121 ∧ Below w.heap.size w w1 := by
    have hnb := Blk.new w [.int .u8 0, .int .u8 0, .int .u8 0, .int .u8 0, .int .u8 0, .int .u8 0, .int .u8 0, .int .u8 0] 121
    refine ⟨_, run_copy_row (P := Try.prog) _ 22 22 3 5 w.heap.size 0 3 8 ⟨bl, off, none⟩ 3 c _ 121 [bv K.1, bv K.2.1, bv K.2.2] Try.underlying22 (by kernel_rfl) hnb rfl (fun j v hj => ?_) (by simp) (by simp [Value.oneCell', bv]), ?_, ?_⟩
    · rw [Go.WideShapes.add_plain]
      have e : ∀ q : Nat, (w.alloc (.cells #[.int .u8 0, .int .u8 0, .int .u8 0, .int .u8 0, .int .u8 0, .int .u8 0, .int .u8 0, .int .u8 0] 121)).cell? ⟨bl, off + q, none⟩ = w.cell? ⟨bl, off + q, none⟩ := fun q => (below_new w _).cell (p := ⟨bl, off + q, none⟩) hb
      rw [e]
      match j, hj with
      | 0, hj => cases hj; exact c0
      | 1, hj => cases hj; exact c1
      | 2, hj => cases hj; exact c2
      | j + 3, hj => simp at hj
    · exact setRow_heap _ _ _ _ _ _ hnb
    · exact below_setRow (below_new w _) (Nat.le_refl _) _
  obtain ⟨w1, hcp, hblk, hb1⟩ := hcp
  unfold bv at hblk
  have d0 := hblk.cell (k := 0) rfl
  have d1 := hblk.cell (k := 1) rfl
  have d2 := hblk.cell (k := 2) rfl
  have d3 := hblk.cell (k := 3) rfl
  have d4 := hblk.cell (k := 4) rfl
  have d5 := hblk.cell (k := 5) rfl
  have d6 := hblk.cell (k := 6) rfl
  have d7 := hblk.cell (k := 7) rfl
  have z0 := fun k => hblk.frozen k
  have HB1 := hid hb1
  have HBL := hid hblk
  clear hblk hb1 c0 c1 c2
  unfold bv at hcp
  go_enter Try.func65, Try.ntmps65
  go_wp2
  have hs := (((((((HBL.out.set 0 (bv K.1)).set 1 (bv K.2.1)).set 2 (bv K.2.2)).set 3 (bv 0)).set 4 (bv 0)).set 5 (bv 0)).set 6 (bv 0)).set 7 (bv 0)
  have hb9 := (((((((HB1.out.setCell (p := ⟨w.heap.size, 0, none⟩) (Nat.le_refl _) (bv K.1)).setCell (p := ⟨w.heap.size, 1, none⟩) (Nat.le_refl _) (bv K.2.1)).setCell (p := ⟨w.heap.size, 2, none⟩) (Nat.le_refl _) (bv K.2.2)).setCell (p := ⟨w.heap.size, 3, none⟩) (Nat.le_refl _) (bv 0)).setCell (p := ⟨w.heap.size, 4, none⟩) (Nat.le_refl _) (bv 0)).setCell (p := ⟨w.heap.size, 5, none⟩) (Nat.le_refl _) (bv 0)).setCell (p := ⟨w.heap.size, 6, none⟩) (Nat.le_refl _) (bv 0)).setCell (p := ⟨w.heap.size, 7, none⟩) (Nat.le_refl _) (bv 0)
  have e0 : bv 0 = .int .u8 0 := rfl
  rw [e0] at hs hb9
  unfold bv at hs hb9
  generalize ((((((((w1.setCell ⟨w.heap.size, 0, none⟩ (.int .u8 (K.1.toNat : Int))).setCell ⟨w.heap.size, 1, none⟩ (.int .u8 (K.2.1.toNat : Int))).setCell ⟨w.heap.size, 2, none⟩ (.int .u8 (K.2.2.toNat : Int))).setCell ⟨w.heap.size, 3, none⟩ (.int .u8 0)).setCell ⟨w.heap.size, 4, none⟩ (.int .u8 0)).setCell ⟨w.heap.size, 5, none⟩ (.int .u8 0)).setCell ⟨w.heap.size, 6, none⟩ (.int .u8 0)).setCell ⟨w.heap.size, 7, none⟩ (.int .u8 0)) = W9 at *
  have r0 := hs.cell (k := 0) rfl
  have r1 := hs.cell (k := 1) rfl
  have r2 := hs.cell (k := 2) rfl
  have r3 := hs.cell (k := 3) rfl
  have r4 := hs.cell (k := 4) rfl
  have r5 := hs.cell (k := 5) rfl
  have r6 := hs.cell (k := 6) rfl
  have r7 := hs.cell (k := 7) rfl
  refine bodyPost_ret (v := kv K) (by simp [results, Try.results65, go_sem, r0, r1, r2, r3, r4, r5, r6, r7, kv, bv]) rfl ⟨rfl, hb9⟩

theorem xfrom_any (p : Addr) (bl off n c k : Nat) (w : World) (h : w.cell? p = some (.slice (some ⟨bl, off, none⟩) n c)) (hm : k + 3 ≤ n) (hn : n ≤ c) :
    Calls Try.prog 66 #[.pointer (some p), .int .i64 k, .int .i64 ((k : Int) + 3)] w fun e w' => e = .returned (.slice (some ⟨bl, off + k, none⟩) 3 3) ∧ w = w' := by
  go_enter Try.func66, Try.ntmps66
  have hne : ¬ k + 3 = k := by omega
  go_wp2
  go_ret
  have e3 : k + 3 - k = 3 := by omega
  exact ⟨by simp only [e3]; rfl, rfl⟩
end Go.Proofs.Ytngphgdoolcpcaa
