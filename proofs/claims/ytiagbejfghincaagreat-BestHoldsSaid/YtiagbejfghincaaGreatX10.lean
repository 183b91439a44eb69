/-
  The walks of layer 32 (price), second part: the shapes of the kinds.
-/
import Derived.Test.YtiagbejfghincaaGreatX04
import Derived.Test.YtiagbejfghincaaGreatX05
import Derived.Test.YtiagbejfghincaaGreatX07
import Derived.Test.YtiagbejfghincaaGreatX08
import Derived.Test.YtiagbejfghincaaGreatX09
import Derived.Maps.Keyed
namespace Go.Proofs.YtiagbejfghincaaGreat
open Go.RowKit Go.Port Go.MapKept Go.ChangeMaps
/-- The function that tells a kind's extra bits. -/
def fbits (k : Nat) : FuncId := if k = 0 then 139 else if k = 2 then 141 else 140
theorem fbits_enter (k : Nat) (args : Array Value) (w : World) : (callFunc (fbits k) args).run Tryz.prog w = .ok (.enter (fbits k) args) w := by
  unfold fbits
  split
  · kernel_rfl
  · split <;> kernel_rfl
theorem prnone_any (c : Int) (w : World) :
    Calls Tryz.prog 139 #[.int .i64 c] w fun e w' => e = .returned (.tuple #[.int .i64 0, .int .i64 0]) ∧ w = w' := by
  go_enter Tryz.func139, Tryz.ntmps139
  go_wp2
  refine bodyPost_ret (v := .tuple #[.int .i64 0, .int .i64 0]) (by simp [results, Tryz.results139, go_sem]) rfl ?_
  exact ⟨rfl, rfl⟩
theorem fbits_any (k s : Nat) (h : s < symN k) (w : World) : Calls Tryz.prog (fbits k) #[.int .i64 (s : Int)] w (RetV w (.tuple #[.int .i64 (sbits k s : Nat), .int .i64 0])) := by
  unfold symN at h
  unfold fbits sbits
  by_cases h0 : k = 0
  · rw [if_pos h0, if_pos h0]
    exact (prnone_any _ w).mono fun e w' ⟨h1, h2⟩ => ⟨h1, by rw [h2]; exact Below.refl _ _⟩
  · rw [if_neg h0] at h ⊢
    rw [if_neg h0]
    by_cases h2 : k = 2
    · rw [if_pos h2] at h ⊢
      have : decide (k = 2) = true := by simp [h2]
      rw [this]
      exact OffsetBits_any s w h
    · rw [if_neg h2] at h ⊢
      have : decide (k = 2) = false := by simp [h2]
      rw [this]
      exact ExtraBits_any s w h
/-- A kind's shape. -/
def shapeV (k : Nat) : Value := .agg #[.int .i64 (symN k : Nat), .func (.func (fbits k)) #[] #[]]
def shapeEs : Array MapEntry := #[⟨.int .i64 0, shapeV 0, 0⟩, ⟨.int .i64 1, shapeV 1, 1⟩, ⟨.int .i64 2, shapeV 2, 2⟩, ⟨.int .i64 3, shapeV 3, 3⟩]
theorem Tryz.kindKey : Go.Maps.Keyed Tryz.prog 110 := Go.Maps.int_keyed Tryz.underlying110
theorem Tryz.kindOf (k : Int) (h0 : 0 ≤ k) (h : k < 4) : keyOf Tryz.prog 110 (.int .i64 k) = some (.int .i64 k) := Go.Maps.keyOf_int_mk Tryz.underlying110 (WalkArith.wf_i64 (by omega))
/-- A new entry of a map of integer keys. -/
theorem ins_run (w : World) (b : Nat) (es : Array MapEntry) (clock : Nat) (k : Int) (v : Value) (hb : w.heap[b]? = some (.map es clock)) (hk0 : 0 ≤ k) (hk : k < 4) (hf : (Instr.findKey 110 (.int .i64 k) es.toList).run Tryz.prog w = .ok none w) :
    (Instr.mapUpdate 180 (.map (some b)) (.int .i64 k) v).run Tryz.prog w = .ok () (setBlock w b (.map (es.push ⟨.int .i64 k, v, clock⟩) (clock + 1))) := by
  simp [Instr.mapUpdate, run_underlying Tryz.underlying180, MapKept.run_getObj_map hb, Tryz.kindKey.check w false (Tryz.kindOf k hk0 hk), hf, MapKept.run_setObj_map _ hb, Result.andThen, setBlock]
/-- The map of the shapes. -/
def ShapesAt (w : World) (b : Nat) : Prop := w.heap[b]? = some (.map shapeEs 4)
theorem shapes_look (w : World) (b k : Nat) (hk : k < 4) (hb : ShapesAt w b) : (Instr.lookup 180 (.map (some b)) (.int .i64 (k : Int)) false).run Tryz.prog w = .ok (shapeV k) w := by
  have hf : ∃ j, (Instr.findKey 110 (.int .i64 (k : Int)) shapeEs.toList).run Tryz.prog w = .ok (some (j, shapeV k)) w := by
    have : k = 0 ∨ k = 1 ∨ k = 2 ∨ k = 3 := by omega
    rcases this with rfl | rfl | rfl | rfl
    · exact ⟨0, by kernel_rfl⟩
    · exact ⟨1, by kernel_rfl⟩
    · exact ⟨2, by kernel_rfl⟩
    · exact ⟨3, by kernel_rfl⟩
  obtain ⟨j, hf⟩ := hf
  simp [Instr.lookup, run_underlying Tryz.underlying180, MapKept.run_getObj_map hb, Tryz.kindKey.check w _ (Tryz.kindOf (k : Int) (by omega) (by omega)), hf, Result.andThen]
set_option maxRecDepth 100000 in
set_option maxHeartbeats 800000 in
theorem prshapes_any (w : World) : Calls Tryz.prog 112 #[] w fun e w' => e = .returned (.map (some w.heap.size)) ∧ ShapesAt w' w.heap.size ∧ Below w.heap.size w w' := by
  have hmm := @run_makeMap Tryz.prog
  have b0 : (w.alloc (.map #[] 0)).heap[w.heap.size]? = some (.map #[] 0) := heap_alloc_new w _
  have low0 := below_new w (.map #[] 0)
  have r0 := ins_run (w.alloc (.map #[] 0)) w.heap.size #[] 0 0 (shapeV 0) b0 (by decide) (by decide) (by kernel_rfl)
  have b1 := heap_setBlock_same b0 (.map #[⟨.int .i64 0, shapeV 0, 0⟩] 1)
  have low1 := low0.grown (grown_setBlock (o := .map #[⟨.int .i64 0, shapeV 0, 0⟩] 1) b0) (by simp) (fun k e => by cases e; exact Nat.le_refl _)
  have hw1 : setBlock (w.alloc (.map #[] 0)) w.heap.size (.map ((#[] : Array MapEntry).push ⟨.int .i64 0, shapeV 0, 0⟩) (0 + 1)) = setBlock (w.alloc (.map #[] 0)) w.heap.size (.map #[⟨.int .i64 0, shapeV 0, 0⟩] 1) := rfl
  rw [hw1] at r0
  generalize setBlock (w.alloc (.map #[] 0)) w.heap.size (.map #[⟨.int .i64 0, shapeV 0, 0⟩] 1) = w1 at *
  have r1 := ins_run w1 w.heap.size _ _ 1 (shapeV 1) b1 (by decide) (by decide) (by kernel_rfl)
  have b2 := heap_setBlock_same b1 (.map #[⟨.int .i64 0, shapeV 0, 0⟩, ⟨.int .i64 1, shapeV 1, 1⟩] 2)
  have hs1 : w.heap.size ≤ w1.heap.size := low1.size
  have low2 := low1.grown (grown_setBlock (o := .map #[⟨.int .i64 0, shapeV 0, 0⟩, ⟨.int .i64 1, shapeV 1, 1⟩] 2) b1) hs1 (fun k e => by cases e; exact Nat.le_refl _)
  have hw2 : setBlock w1 w.heap.size (.map ((#[⟨.int .i64 0, shapeV 0, 0⟩] : Array MapEntry).push ⟨.int .i64 1, shapeV 1, 1⟩) (1 + 1)) = setBlock w1 w.heap.size (.map #[⟨.int .i64 0, shapeV 0, 0⟩, ⟨.int .i64 1, shapeV 1, 1⟩] 2) := rfl
  rw [hw2] at r1
  generalize setBlock w1 w.heap.size (.map #[⟨.int .i64 0, shapeV 0, 0⟩, ⟨.int .i64 1, shapeV 1, 1⟩] 2) = w2 at *
  have r2 := ins_run w2 w.heap.size _ _ 2 (shapeV 2) b2 (by decide) (by decide) (by kernel_rfl)
  have b3 := heap_setBlock_same b2 (.map #[⟨.int .i64 0, shapeV 0, 0⟩, ⟨.int .i64 1, shapeV 1, 1⟩, ⟨.int .i64 2, shapeV 2, 2⟩] 3)
  have hs2 : w.heap.size ≤ w2.heap.size := low2.size
  have low3 := low2.grown (grown_setBlock (o := .map #[⟨.int .i64 0, shapeV 0, 0⟩, ⟨.int .i64 1, shapeV 1, 1⟩, ⟨.int .i64 2, shapeV 2, 2⟩] 3) b2) hs2 (fun k e => by cases e; exact Nat.le_refl _)
  have hw3 : setBlock w2 w.heap.size (.map ((#[⟨.int .i64 0, shapeV 0, 0⟩, ⟨.int .i64 1, shapeV 1, 1⟩] : Array MapEntry).push ⟨.int .i64 2, shapeV 2, 2⟩) (2 + 1)) = setBlock w2 w.heap.size (.map #[⟨.int .i64 0, shapeV 0, 0⟩, ⟨.int .i64 1, shapeV 1, 1⟩, ⟨.int .i64 2, shapeV 2, 2⟩] 3) := rfl
  rw [hw3] at r2
  generalize setBlock w2 w.heap.size (.map #[⟨.int .i64 0, shapeV 0, 0⟩, ⟨.int .i64 1, shapeV 1, 1⟩, ⟨.int .i64 2, shapeV 2, 2⟩] 3) = w3 at *
  have r3 := ins_run w3 w.heap.size _ _ 3 (shapeV 3) b3 (by decide) (by decide) (by kernel_rfl)
  have b4 := heap_setBlock_same b3 (.map shapeEs 4)
  have hs3 : w.heap.size ≤ w3.heap.size := low3.size
  have low4 := low3.grown (grown_setBlock (o := .map shapeEs 4) b3) hs3 (fun k e => by cases e; exact Nat.le_refl _)
  have hw4 : setBlock w3 w.heap.size (.map ((#[⟨.int .i64 0, shapeV 0, 0⟩, ⟨.int .i64 1, shapeV 1, 1⟩, ⟨.int .i64 2, shapeV 2, 2⟩] : Array MapEntry).push ⟨.int .i64 3, shapeV 3, 3⟩) (3 + 1)) = setBlock w3 w.heap.size (.map shapeEs 4) := rfl
  rw [hw4] at r3
  generalize setBlock w3 w.heap.size (.map shapeEs 4) = w4 at *
  have e0 : shapeV 0 = .agg #[.int .i64 256, .func (.func 139) #[] #[]] := rfl
  have e1 : shapeV 1 = .agg #[.int .i64 44, .func (.func 140) #[] #[]] := rfl
  have e2 : shapeV 2 = .agg #[.int .i64 28, .func (.func 141) #[] #[]] := rfl
  have e3 : shapeV 3 = .agg #[.int .i64 44, .func (.func 140) #[] #[]] := rfl
  rw [e0] at r0
  rw [e1] at r1
  rw [e2] at r2
  rw [e3] at r3
  have HR := hid (And.intro (show ShapesAt w4 w.heap.size from b4) low4)
  clear b0 b1 b2 b3 b4 low0 low1 low2 low3 low4 hw1 hw2 hw3 hw4 hs1 hs2 hs3 e0 e1 e2 e3
  go_enter Tryz.func112, Tryz.ntmps112
  go_wp2
  go_ret
  exact ⟨rfl, HR.out⟩
end Go.Proofs.YtiagbejfghincaaGreat
