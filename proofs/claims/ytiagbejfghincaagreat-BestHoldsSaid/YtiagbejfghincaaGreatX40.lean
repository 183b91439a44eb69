/-
  Plain laws of layer 33 (best): the chapter's examples.
  The walks of layer 33 (best): the iterator over the candidate matches.
-/
import Derived.Test.YtiagbejfghincaaGreatX39
import Derived.Test.YtiagbejfghincaaGreatX37
import Derived.OwnWalkIn
import Derived.TacticsInMore
import Derived.LoopNIn
import Derived.LoopIn
import Derived.WalkMore
namespace Go.Port
open Go.RowKit Go.Proofs.YtiagbejfghincaaGreat
def bwd : List UInt8 := [97, 98, 99, 97, 98, 99, 97, 98, 99, 97, 98, 99]
theorem bw_a : bSteps (allS bwd 0 100 9 3) = [⟨0, 3, 3⟩, ⟨0, 4, 3⟩, ⟨0, 5, 3⟩, ⟨0, 6, 3⟩, ⟨0, 7, 3⟩, ⟨0, 8, 3⟩, ⟨0, 9, 3⟩] := by decide +kernel
theorem bw_b : bSteps (allS bwd 0 100 9 0) = [] := by decide +kernel
theorem bw_c : costAt (tabF noC bwd 0 100 9) 0 = 9248 ∧ planT (tabF noC bwd 0 100 9) 0 0 = [⟨3, 9, 3⟩] := by decide +kernel
theorem bw_d : costAt (tabF noC bwd 0 100 9) 12 = 0 := by decide +kernel
theorem bw_e : planT ((tabF noC bwd 0 100 9).drop 12) 0 0 = [] := by decide +kernel
end Go.Port
namespace Go.Proofs.YtiagbejfghincaaGreat
open Go.RowKit Go.Port
attribute [local go_sem] Oper.semAt_some
set_option maxRecDepth 100000 in
set_option maxHeartbeats 4000000 in
theorem bcand1_seq (X : Nat → Prop) (T : TypeId → Bool) (p : Nat) (a : Option Addr) (c : Nat) (l : List Sq) (w0 : World) (hl : l.length ≤ 100000) (hp : X p) (hb : w0.cell? ⟨p, 0, none⟩ = some (.slice a l.length c))
    (hc : ∀ j u, (l.flatMap sqc)[j]? = some u → ∃ b off, a = some ⟨b, off, none⟩ ∧ X b ∧ w0.cell? ⟨b, off + j, none⟩ = some u) :
    SeqSt Tryz.prog 36 #[.pointer (some ⟨p, 0, none⟩)] encsP (fun xs => xs = enumQ l) (fun xs => ∃ rest, xs ++ rest = enumQ l) X T w0 := by
  intro lp J Jx W hW hJ hJx hY hJ0
  have hT0 : TrX X w0 W := TrX.low hW
  have hpW := hT0 _ _ (show X (⟨p, 0, none⟩ : Addr).block from hp) hb
  have HC := hid (fun (W' : World) (hT : TrX X w0 W') j u hu => (show ∃ b off, a = some ⟨b, off, none⟩ ∧ b < W'.heap.size ∧ W'.cell? ⟨b, off + j, none⟩ = some u from by
    obtain ⟨b, off, e, hb, hc⟩ := hc j u hu
    have := hT ⟨b, off + j, none⟩ u hb hc
    exact ⟨b, off, e, World.block_lt_of_cell? W' _ this, this⟩))
  have HY := hid hY
  have HJ := hid hJ
  have hT := hT0
  clear hc hY hT0 hb hJx hJ
  refine callsIn_of_wp Tryz.func36 rfl trivial ?_ rfl
  simp only [Tryz.ntmps36, List.size_toArray, List.length_cons, List.length_nil, Nat.reduceAdd, Nat.reduceSub, Array.replicate_succ, Array.replicate_zero, List.push_toArray, List.append_toArray, List.nil_append, List.cons_append]
  gi_wp2
  refine wpIn_wide.2 (wp_scope_straight ((wpIn_wide (n := 0)).1 ?_))
  gi_wp2
  refine wpIn_label ?_
  gi_wp2
  gi_loopw [7] (fun i wr => ∃ (k : Nat), k ≤ l.length ∧ i = .int .i64 k ∧ J (enumQ (l.take k)) wr ∧ TrX X w0 wr) (fun i _ => l.length - (intOf i).toNat)
  case atStart => exact ⟨0, Nat.zero_le _, rfl, hJ0, hT⟩
  case round =>
    obtain ⟨k, hk, rfl, hJk, hTr⟩ := hrel
    by_cases hlt : k < l.length
    · obtain ⟨x, hx⟩ : ∃ x, l[k]? = some x := ⟨l[k], by simp [hlt]⟩
      obtain ⟨bl, off, rfl, hb0, c0⟩ := HC.out wr hTr (k * 3 + 0) (.int .i64 x.lit) (by rw [sqc_get hx 0 (by omega)]; rfl)
      obtain ⟨_, _, e1, _, c1⟩ := HC.out wr hTr (k * 3 + 1) (.int .i64 x.len) (by rw [sqc_get hx 1 (by omega)]; rfl)
      cases e1
      obtain ⟨_, _, e2, _, c2⟩ := HC.out wr hTr (k * 3 + 2) (.int .i64 x.off) (by rw [sqc_get hx 2 (by omega)]; rfl)
      cases e2
      rw [Nat.add_zero] at c0
      rw [← Nat.add_assoc] at c1 c2
      have HST := hid (enumQ_take hx)
      have HPre := hid (enumQ_pre l (k + 1))
      have HT := hid (hTr.trans (TrX.low (below_new wr (.cells (sqc x).toArray 44))))
      have HJk := hid (StaysC.low HJ.out hJk (below_new wr (.cells (sqc x).toArray 44)))
      have HK := hid hlt
      clear hx hTr hJk hk hlt
      have tk : (k : Int) < (l.length : Int) := by have := HK.out; omega
      obtain ⟨fn, tmps, assign, body, hy, hRy⟩ := HY.out (enumQ (l.take k)) ((k : Int), x) _ HJk.out (by rw [← HST.out]; exact HPre.out)
      have hy2 : (Instr.yield lp #[.int .i64 (k : Int), .agg #[.int .i64 x.lit, .int .i64 x.len, .int .i64 x.off]]).run Tryz.prog (wr.alloc (.cells #[.int .i64 x.lit, .int .i64 x.len, .int .i64 x.off] 44)) = .ok (.round lp fn tmps assign body) (wr.alloc (.cells #[.int .i64 x.lit, .int .i64 x.len, .int .i64 x.off] 44)) := hy
      have HRy := hid hRy
      clear hy hRy
      gi_wp2
      refine ⟨rfl, HRy.out.mono ?_⟩
      rintro e w2 ⟨hkp, (⟨rfl, hJ2⟩ | ⟨rfl, hJx2⟩)⟩
      · gi_wp2
        go_roundw
        case rel =>
          refine ⟨k + 1, HK.out, by go_num, ?_, HT.out.trans (TrX.of_keeps hkp)⟩
          rw [HST.out]
          exact hJ2
        case measure =>
          have := HK.out
          simp [intOf]; omega
      · have HE := hid (show ∃ rest, (enumQ (l.take k) ++ [((k : Int), x)]) ++ rest = enumQ l from by rw [← HST.out]; exact HPre.out)
        gi_wp2
        simp only [Exit.noGoto_normal]
        refine bodyPost_end (results_none rfl _ _ _) rfl ?_
        exact ⟨⟨_, rfl⟩, .inr ⟨_, HE.out, hJx2⟩⟩
    · obtain rfl : k = l.length := by omega
      rw [List.take_of_length_le (Nat.le_refl _)] at hJk
      gi_wp2
      simp only [Exit.noGoto_normal]
      refine bodyPost_end (results_none rfl _ _ _) rfl ?_
      exact ⟨⟨_, rfl⟩, .inl ⟨_, rfl, hJk⟩⟩
set_option maxRecDepth 100000 in
theorem bcand_gen (fp : Option Addr) (p : Int) (l : List Sq) (w : World) (hSt : Calls Tryz.prog 35 #[.pointer fp, .int .i64 p] w fun e w' => ∃ a, e = .returned (.slice a l.length l.length) ∧ CellsAt w' a (l.flatMap sqc) ∧ Below w.heap.size w w' ∧ ∀ x, a = some x → w.heap.size ≤ x.block) :
    Calls Tryz.prog 14 #[.pointer fp, .int .i64 p] w fun e w' => ∃ g a, e = .returned (.func (.func 36) #[] #[.pointer (some ⟨g, 0, none⟩)]) ∧ w.heap.size ≤ g ∧ Blk w' g [.slice a l.length l.length] 38 ∧ CellsAt w' a (l.flatMap sqc) ∧ Below w.heap.size w w' ∧ ∀ x, a = some x → w.heap.size ≤ x.block := by
  have HSt := hid hSt
  have hmf : ∀ (fn : Fn) (first cap : Array Value) (w : World), (Instr.makeFunc fn first cap).run Tryz.prog w = .ok (.func fn first cap) w := fun _ _ _ _ => rfl
  clear hSt
  go_enter Tryz.func14, Tryz.ntmps14
  go_wp2_with fail
  refine HSt.out.mono ?_
  rintro e w2 ⟨a, rfl, hc, hb, hx⟩
  have HB := hid hb
  have HC := hid hc
  have HX := hid hx
  clear hc hb hx
  go_wp2
  go_ret
  have h1 := below_new w2 (.cells #[.slice a l.length l.length] 38)
  exact ⟨w2.heap.size, a, by simp, HB.out.size, Blk.new w2 _ _, HC.out.low h1, HB.out.trans (h1.mono HB.out.size), HX.out⟩
theorem bcand_any (bs : List UInt8) (A : Nat) (Wd D : Int) (F : Nat) (p : Int) (w : World) (h : FdAt 76 159 bs A Wd D F w) :
    Calls Tryz.prog 14 #[.pointer (some ⟨F, 0, none⟩), .int .i64 p] w fun e w' => ∃ g a, e = .returned (.func (.func 36) #[] #[.pointer (some ⟨g, 0, none⟩)]) ∧ w.heap.size ≤ g ∧ Blk w' g [.slice a (bSteps (allS bs A Wd D p)).length (bSteps (allS bs A Wd D p)).length] 38 ∧ CellsAt w' a ((bSteps (allS bs A Wd D p)).flatMap sqc) ∧ Below w.heap.size w w' ∧ ∀ x, a = some x → w.heap.size ≤ x.block :=
  bcand_gen _ p _ w (bsteps_any bs A Wd D F p w h)
end Go.Proofs.YtiagbejfghincaaGreat
