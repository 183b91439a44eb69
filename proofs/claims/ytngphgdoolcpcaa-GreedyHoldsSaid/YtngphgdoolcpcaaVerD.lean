/-
  The walks of layer 22 (plan), fourth part: the deferred 'caught' where nothing panics, FirstError, Check, steps; slices.Equal.
-/
import Derived.Test.YtngphgdoolcpcaaVerC
import Derived.Test.YtngphgdoolcpcaaVerPlain
namespace Go.Port
open Go.RowKit
theorem take_pre_eq {α : Type} (pre rest : List α) : (pre ++ rest).take pre.length = pre := by simp
theorem VerOk.plIn {bs : List UInt8} {A : Nat} {W : Int} {l : List Sq} (h : VerOk bs A W 0 l) (h1 : (bs.length : Int) - A ≤ 131072) (h2 : (A : Int) ≤ 1000000) (hW : W ≤ 134217728) : PlIn l ((bs.length : Int) - A) A W true := by
  intro pre s rest e
  have hs := h.drop l 0 pre.length s (by rw [e]; simp)
  rw [e, take_pre_eq] at hs
  exact ⟨⟨hs.p0, hs.lit, hs.len, hs.fin, h1⟩, fun _ => ⟨hs.off, hs.win, hs.far, hW, by simp only; omega, h2⟩⟩
theorem VerOk.plMax {bs : List UInt8} {A : Nat} {W : Int} {l : List Sq} (h : VerOk bs A W 0 l) (h1 : (bs.length : Int) - A ≤ 131072) : PlIn l 131072 0 0 false := by
  intro pre s rest e
  have hs := h.drop l 0 pre.length s (by rw [e]; simp)
  rw [e, take_pre_eq] at hs
  exact ⟨⟨hs.p0, hs.lit, hs.len, by have := hs.fin; simp only; omega, Int.le_refl _⟩, fun h => by cases h⟩
end Go.Port
namespace Go.Proofs.Ytngphgdoolcpcaa
open Go.RowKit Go.Port

theorem piface_nil (w : World) : (binOp BinOp.eql 20 .nilIface .nilIface).run Try.prog w = .ok (.bool true) w := by kernel_rfl

set_option maxRecDepth 100000 in
set_option maxHeartbeats 400000 in
theorem pcaught_idle (p q : Addr) (w : World) :
    CallsD Try.prog 61 #[.pointer (some p), .pointer (some q)] .returning w fun e u' w' => e = .returned (.tuple #[]) ∧ u' = .returning ∧ w' = w := by
  have hnil := piface_nil
  refine callsD_of_wpS Try.func61 rfl fun c₀ cs hu => ?_
  simp only [Try.ntmps61, List.size_toArray, List.length_cons, List.length_nil, Nat.reduceAdd, Nat.reduceSub, Array.replicate_succ,
     Array.replicate_zero, List.push_toArray, List.append_toArray, List.nil_append, List.cons_append]
  apply wpS_seq
  apply wpS_region
  generalize hQ : (Exit.thenS _ _ : Exit → Act → List Frame → World → Prop) = Q
  simp [wpOpsS, go_sem, recoverD, hu]
  subst hQ
  dsimp only [Exit.thenS]
  refine wpS_of_wp ?_
  go_wp2
  exact ⟨rfl, .returning, by cases c₀; simp_all, .tuple #[], results_none rfl _ _ _, rfl, rfl, rfl⟩

set_option maxRecDepth 100000 in
set_option maxHeartbeats 4000000 in
theorem pfirst_ok (l : List Sq) (a : Option Addr) (c : Nat) (size hav win : Int) (w : World) (hl : l.length ≤ 1000000) (hlc : l.length ≤ c) (hc : CellsAt w a (l.flatMap sqc)) (hv : PlIn l size hav win true) (h1 : 0 ≤ size) (h2 : size ≤ 131072) (h3 : 0 ≤ hav) (h4 : 1 ≤ win) (h5 : win ≤ 134217728) :
    Calls Try.prog 59 #[.slice a l.length c, .int .i64 size, .int .i64 hav, .int .i64 win] w (RetV w (.tuple #[.int .i64 0, .int .i64 0])) := by
  have hb0 : Below w.heap.size w ((w.alloc (.cells #[.int .i64 0] 3)).alloc (.cells #[.int .i64 0] 30)) := (below_new w _).alloc (by simp) _
  have hB1 : Blk ((w.alloc (.cells #[.int .i64 0] 3)).alloc (.cells #[.int .i64 0] 30)) w.heap.size [.int .i64 0] 3 := (Blk.new w [.int .i64 0] 3).alloc _
  have hB2 : Blk ((w.alloc (.cells #[.int .i64 0] 3)).alloc (.cells #[.int .i64 0] 30)) (w.heap.size + 1) [.int .i64 0] 30 := by
    have := Blk.new (w.alloc (.cells #[.int .i64 0] 3)) [.int .i64 0] 30
    rwa [show (w.alloc (.cells #[.int .i64 0] 3)).heap.size = w.heap.size + 1 from by simp] at this
  have HG := hid (pgoneF_any l a c size hav win _ hl hlc (hc.low hb0) hv)
  have HB0 := hid hb0
  have HB1 := hid hB1
  have HB2 := hid hB2
  unfold pstv Sq.zero at HG
  dsimp only at HG
  have m1 : 0 ≤ min size hav := by omega
  have m2 : ¬ (min size hav < 0) := by omega
  have n2 : ¬ 131072 < size := by omega
  have n4 : ¬ win < 1 := by omega
  have n5 : ¬ 134217728 < win := by omega
  clear hc hv hl hb0 hB1 hB2
  go_enter_defers Try.func59, Try.ntmps59
  go_wp2_with fail
  refine HG.out.mono ?_
  rintro e w1 ⟨rfl, hb1⟩
  have HC1 := hid (HB1.out.below hb1 HB1.out.lt)
  have HC2 := hid (HB2.out.below hb1 HB2.out.lt)
  have HC0 := hid (HB0.out.trans (hb1.mono HB0.out.size))
  clear hb1 HB0 HB1 HB2 HG
  have d1 := HC1.out.cell (k := 0) rfl
  have d2 := HC2.out.cell (k := 0) rfl
  have z1 := HC1.out.frozen 0
  have z2 := HC2.out.frozen 0
  go_wp2
  have hf1 := (HC1.out.set 0 (.int .i64 0)).other (a := ⟨w.heap.size + 1, 0, none⟩) (.int .i64 0) (by simp)
  have hf2 := (HC2.out.other (a := ⟨w.heap.size, 0, none⟩) (.int .i64 0) (by simp)).set 0 (.int .i64 0)
  have hf0 := (HC0.out.setCell (p := ⟨w.heap.size, 0, none⟩) (Nat.le_refl _) (.int .i64 0)).setCell (p := ⟨w.heap.size + 1, 0, none⟩) (Nat.le_succ _) (.int .i64 0)
  generalize (w1.setCell ⟨w.heap.size, 0, none⟩ (.int .i64 0)).setCell ⟨w.heap.size + 1, 0, none⟩ (.int .i64 0) = w9 at *
  refine leaves_cons (f := 61) (args := #[.pointer (some ⟨w.heap.size, 0, none⟩), .pointer (some ⟨w.heap.size + 1, 0, none⟩)]) (by simp) (by simp [go_sem]) ?_
  refine (pcaught_idle _ _ _).mono ?_
  rintro e u' w'' ⟨rfl, rfl, rfl⟩
  have q1 := hf1.cell (k := 0) rfl
  have q2 := hf2.cell (k := 0) rfl
  refine ⟨_, ?_, rfl, hf0⟩
  simp [results, Try.results59, go_sem, q1, q2]

set_option maxRecDepth 100000 in
theorem pcheck_ok (l : List Sq) (a : Option Addr) (c : Nat) (size hav win : Int) (w : World) (hl : l.length ≤ 1000000) (hlc : l.length ≤ c) (hc : CellsAt w a (l.flatMap sqc)) (hv : PlIn l size hav win true) (h1 : 0 ≤ size) (h2 : size ≤ 131072) (h3 : 0 ≤ hav) (h4 : 1 ≤ win) (h5 : win ≤ 134217728) :
    Calls Try.prog 38 #[.slice a l.length c, .int .i64 size, .int .i64 hav, .int .i64 win] w (RetV w (.int .i64 0)) := by
  have HF := hid (pfirst_ok l a c size hav win w hl hlc hc hv h1 h2 h3 h4 h5)
  clear hc hv hl h1 h2 h3 h4 h5
  go_enter Try.func38, Try.ntmps38
  go_wp2_with fail
  refine HF.out.mono ?_
  rintro e w1 ⟨rfl, hb1⟩
  go_wp2
  go_ret
  exact ⟨rfl, hb1⟩

set_option maxRecDepth 100000 in
set_option maxHeartbeats 4000000 in
theorem psteps_ok (l : List Sq) (a : Option Addr) (c : Nat) (w : World) (hl : l.length ≤ 900000) (hlc : l.length ≤ c) (hc : CellsAt w a (l.flatMap sqc)) (hv : PlIn l 131072 0 0 false) :
    Calls Try.prog 40 #[.slice a l.length c] w fun e w' => ∃ v, e = .returned (.tuple #[v, .int .i64 (endOf 0 l), .int .i64 0]) ∧ w'.ownsRow w.heap.size 86 8 v l.length ((psts 131072 0 0 l).flatMap pstc) ∧ Below w.heap.size w w' := by
  have hmf : ∀ (fn : Fn) (first cap : Array Value) (w : World), (Instr.makeFunc fn first cap).run Try.prog w = .ok (.func fn first cap) w := fun _ _ _ _ => rfl
  obtain ⟨w3, hw3⟩ : ∃ w3, w3 = ((w.alloc (.cells #[.slice none 0 0] 82)).alloc (.cells #[.int .i64 0] 30)).alloc (.cells #[.int .i64 0] 3) := ⟨_, rfl⟩
  have hs1 : (w.alloc (.cells #[.slice none 0 0] 82)).heap.size = w.heap.size + 1 := by simp
  have hs2 : ((w.alloc (.cells #[.slice none 0 0] 82)).alloc (.cells #[.int .i64 0] 30)).heap.size = w.heap.size + 2 := by simp
  have hs3 : w3.heap.size = w.heap.size + 3 := by rw [hw3]; simp
  have hb0 : Below w.heap.size w w3 := by rw [hw3]; exact ((below_new w _).alloc (by simp) _).alloc (by simp; omega) _
  have hA : Blk w3 w.heap.size [.slice none 0 0] 82 := by rw [hw3]; exact ((Blk.new w [.slice none 0 0] 82).alloc _).alloc _
  have hE : Blk w3 (w.heap.size + 1) [.int .i64 0] 30 := by
    rw [hw3]
    have := Blk.new (w.alloc (.cells #[.slice none 0 0] 82)) [.int .i64 0] 30
    rw [hs1] at this
    exact this.alloc _
  have HG := hid (pgoneS_any l a c w.heap.size w w3 hl hlc hb0 (Nat.le_refl _) hA hc hv)
  have HB := hid hb0
  have HE := hid hE
  have HS3 := hid hs3
  have HW3 := hid hw3
  unfold pstv Sq.zero at HG
  dsimp only at HG
  clear hc hv hl hb0 hA hE hs1 hs2 hs3 hw3
  go_enter_defers Try.func40, Try.ntmps40
  go_wp2_with fail
  rw [← HW3.out]
  refine HG.out.mono ?_
  rintro e w4 ⟨rfl, ⟨v, hb, ho⟩, hk⟩
  have HE4 := hid (hk.blk HE.out (by have := HS3.out; omega) (fun e => by simp only [Option.some.injEq] at e; omega))
  have HB4 := hid (HB.out.trans (hk.below HB.out.size (Nat.le_refl _)))
  have hO := own_le ho HB.out.size
  obtain ⟨av, cv, rfl⟩ := own_slice ho
  have hz : (Value.slice av l.length cv).ownBlock ≠ some w.heap.size := fun e => by have h1 := (ho.lt _ e).1; have h2 := HS3.out; omega
  have hz1 : (Value.slice av l.length cv).ownBlock ≠ some (w.heap.size + 1) := fun e => by have h1 := (ho.lt _ e).1; have h2 := HS3.out; omega
  have HO := hid (ownsRow_setCell_other (ownsRow_setCell_other hO (a := ⟨w.heap.size, 0, none⟩) hz (.slice av l.length cv)) (a := ⟨w.heap.size + 1, 0, none⟩) hz1 (.int .i64 0))
  have HF1 := hid ((hb.set 0 (.slice av l.length cv)).other (a := ⟨w.heap.size + 1, 0, none⟩) (.int .i64 0) (by simp))
  have HF2 := hid ((HE4.out.other (a := ⟨w.heap.size, 0, none⟩) (.slice av l.length cv) (by simp)).set 0 (.int .i64 0))
  have HF0 := hid ((HB4.out.setCell (p := ⟨w.heap.size, 0, none⟩) (Nat.le_refl _) (.slice av l.length cv)).setCell (p := ⟨w.heap.size + 1, 0, none⟩) (Nat.le_succ _) (.int .i64 0))
  have d1 := hb.cell (k := 0) rfl
  have d2 := HE4.out.cell (k := 0) rfl
  have z1 := hb.frozen 0
  have z2 := HE4.out.frozen 0
  clear hb ho hk hO hz hz1 HB HE HG
  go_wp2
  generalize (w4.setCell ⟨w.heap.size, 0, none⟩ (.slice av l.length cv)).setCell ⟨w.heap.size + 1, 0, none⟩ (.int .i64 0) = w9 at *
  refine leaves_cons (f := 61) (args := #[.pointer (some ⟨w.heap.size + 2, 0, none⟩), .pointer (some ⟨w.heap.size + 1, 0, none⟩)]) (by simp) (by simp [go_sem]) ?_
  refine (pcaught_idle _ _ _).mono ?_
  rintro e u' w'' ⟨rfl, rfl, rfl⟩
  have q1 := HF1.out.cell (k := 0) rfl
  have q2 := HF2.out.cell (k := 0) rfl
  refine ⟨_, ?_, _, rfl, HO.out, HF0.out⟩
  simp [results, Try.results40, go_sem, q1, q2]

set_option maxRecDepth 100000 in
set_option maxHeartbeats 4000000 in
theorem bequal_any (a1 a2 : Option Addr) (c1 c2 : Nat) (bs : List UInt8) (w : World) (hl : bs.length ≤ 1000000) (h1 : CellsAt w a1 (bs.map bv)) (h2 : CellsAt w a2 (bs.map bv)) :
    Calls Try.prog 42 #[.slice a1 bs.length c1, .slice a2 bs.length c2] w fun e w' => e = .returned (.bool true) ∧ ∃ m, w' = w.drewN m := by
  have HC1 := hid h1
  have HC2 := hid h2
  clear h1 h2
  go_enter Try.func42, Try.ntmps42
  go_wp2
  go_loopw [13] (fun i wr => ∃ k : Nat, k ≤ bs.length ∧ i = .int .i64 k ∧ ∃ m, wr = w.drewN m) (fun i _ => bs.length - (intOf i).toNat)
  case atStart => exact ⟨0, Nat.zero_le _, rfl, 0, rfl⟩
  case round =>
    obtain ⟨k, hk, rfl, m, rfl⟩ := hrel
    by_cases hlt : k < bs.length
    · obtain ⟨b1, o1, rfl, _, d1⟩ := HC1.out k (bv bs[k]) (by simp [hlt])
      obtain ⟨b2, o2, rfl, _, d2⟩ := HC2.out k (bv bs[k]) (by simp [hlt])
      unfold bv at d1 d2
      generalize (bs[k].toNat : Int) = x at *
      have hkI : (k : Int) < (bs.length : Int) := by omega
      go_wp2
      go_quiet (fail)
      go_wp2
      go_roundw
      case rel => exact ⟨k + 1, by omega, by go_num, _, rfl⟩
      case measure => simp [intOf]; omega
    · obtain rfl : k = bs.length := by omega
      go_wp2
      go_ret
      exact ⟨rfl, _, rfl⟩
end Go.Proofs.Ytngphgdoolcpcaa
