/-
  The walks of layer 31: the steps of a lazy plan, iterated over.
-/
import Derived.Test.YtclheffeiaaodaaLz
import Derived.Test.YtclheffeiaaodaaMem
import Derived.OwnWalkIn
import Derived.TacticsInMore
import Derived.LoopNIn
import Derived.LoopIn
import Derived.WalkMore
namespace Go.Proofs.Ytclheffeiaaodaa
open Go.RowKit Go.Port

attribute [local go_sem] Oper.semAt_some

set_option maxRecDepth 100000 in
set_option maxHeartbeats 4000000 in
theorem lzsteps1_seq (X : Nat → Prop) (T : TypeId → Bool) (p : Nat) (a : Option Addr) (c : Nat) (l : List (Int × Sq)) (w0 : World) (hl : l.length ≤ 100000) (hp : X p) (hb : w0.cell? ⟨p, 0, none⟩ = some (.slice a l.length c))
    (hc : ∀ j u, (l.flatMap stc)[j]? = some u → ∃ b off, a = some ⟨b, off, none⟩ ∧ X b ∧ w0.cell? ⟨b, off + j, none⟩ = some u) :
    SeqSt Try.prog 46 #[.pointer (some ⟨p, 0, none⟩)] encsP (fun xs => xs = l) (fun xs => ∃ rest, xs ++ rest = l) X T w0 := by
  intro lp J Jx W hW hJ hJx hY hJ0
  have hT0 : TrX X w0 W := TrX.low hW
  have hpW := hT0 _ _ (show X (⟨p, 0, none⟩ : Addr).block from hp) hb
  have HC := hid (fun (W' : World) (hT : TrX X w0 W') j u hu => (show ∃ b off, a = some ⟨b, off, none⟩ ∧ b < W'.heap.size ∧ W'.cell? ⟨b, off + j, none⟩ = some u from by
    obtain ⟨b, off, e, hb, hc⟩ := hc j u hu
    have := hT ⟨b, off + j, none⟩ u hb hc
    exact ⟨b, off, e, World.block_lt_of_cell? W' _ this, this⟩))
  have HY := hid hY
  have HJ := hid hJ
  have hT := hT0
  clear hc hY hT0 hb hJx hJ
  refine callsIn_of_wp Try.func46 rfl trivial ?_ rfl
  simp only [Try.ntmps46, List.size_toArray, List.length_cons, List.length_nil, Nat.reduceAdd, Nat.reduceSub, Array.replicate_succ, Array.replicate_zero, List.push_toArray, List.append_toArray, List.nil_append, List.cons_append]
  gi_wp2
  refine wpIn_wide.2 (wp_scope_straight ((wpIn_wide (n := 0)).1 ?_))
  gi_wp2
  refine wpIn_label ?_
  gi_wp2
  gi_loopw [7] (fun i wr => ∃ (k : Nat), k ≤ l.length ∧ i = .int .i64 k ∧ J (l.take k) wr ∧ TrX X w0 wr) (fun i _ => l.length - (intOf i).toNat)
  case atStart => exact ⟨0, Nat.zero_le _, rfl, hJ0, hT⟩
  case round =>
    obtain ⟨k, hk, rfl, hJk, hTr⟩ := hrel
    by_cases hlt : k < l.length
    · obtain ⟨x, hx⟩ : ∃ x, l[k]? = some x := ⟨l[k], by simp [hlt]⟩
      obtain ⟨bl, off, rfl, hb0, c0⟩ := HC.out wr hTr (k * 4 + 0) (.int .i64 x.1) (by rw [stc_get hx 0 (by omega)]; rfl)
      obtain ⟨_, _, e1, _, c1⟩ := HC.out wr hTr (k * 4 + 1) (.int .i64 x.2.lit) (by rw [stc_get hx 1 (by omega)]; rfl)
      cases e1
      obtain ⟨_, _, e2, _, c2⟩ := HC.out wr hTr (k * 4 + 2) (.int .i64 x.2.len) (by rw [stc_get hx 2 (by omega)]; rfl)
      cases e2
      obtain ⟨_, _, e3, _, c3⟩ := HC.out wr hTr (k * 4 + 3) (.int .i64 x.2.off) (by rw [stc_get hx 3 (by omega)]; rfl)
      cases e3
      rw [Nat.add_zero] at c0
      rw [← Nat.add_assoc] at c1 c2 c3
      have HST := hid (take_next hx)
      have HPre := hid (take_pre l (k + 1))
      have HT := hid (hTr.trans (TrX.low (below_new wr (.cells (stc x).toArray 75))))
      have HJk := hid (StaysC.low HJ.out hJk (below_new wr (.cells (stc x).toArray 75)))
      have HK := hid hlt
      clear hx hTr hJk hk hlt
      have tk : (k : Int) < (l.length : Int) := by have := HK.out; omega
      obtain ⟨fn, tmps, assign, body, hy, hRy⟩ := HY.out (l.take k) x _ HJk.out (by rw [← HST.out]; exact HPre.out)
      have hy2 : (Instr.yield lp #[.int .i64 x.1, .agg #[.int .i64 x.2.lit, .int .i64 x.2.len, .int .i64 x.2.off]]).run Try.prog (wr.alloc (.cells #[.int .i64 x.1, .int .i64 x.2.lit, .int .i64 x.2.len, .int .i64 x.2.off] 75)) = .ok (.round lp fn tmps assign body) (wr.alloc (.cells #[.int .i64 x.1, .int .i64 x.2.lit, .int .i64 x.2.len, .int .i64 x.2.off] 75)) := hy
      have HRy := hid hRy
      clear hy hRy
      gi_wp2
      refine ⟨rfl, HRy.out.mono ?_⟩
      rintro e w2 ⟨hkp, (⟨rfl, hJ2⟩ | ⟨rfl, hJx2⟩)⟩
      · gi_wp2
        go_roundw
        case rel =>
          refine ⟨k + 1, HK.out, by go_num, ?_, HT.out.trans (TrX.of_keeps hkp)⟩
          rw [HST.out]
          exact hJ2
        case measure =>
          have := HK.out
          simp [intOf]; omega
      · have HE := hid (show ∃ rest, (l.take k ++ [x]) ++ rest = l from by rw [← HST.out]; exact HPre.out)
        gi_wp2
        simp only [Exit.noGoto_normal]
        refine bodyPost_end (results_none rfl _ _ _) rfl ?_
        exact ⟨⟨_, rfl⟩, .inr ⟨_, HE.out, hJx2⟩⟩
    · obtain rfl : k = l.length := by omega
      rw [List.take_of_length_le (Nat.le_refl _)] at hJk
      gi_wp2
      simp only [Exit.noGoto_normal]
      refine bodyPost_end (results_none rfl _ _ _) rfl ?_
      exact ⟨⟨_, rfl⟩, .inl ⟨_, rfl, hJk⟩⟩

set_option maxRecDepth 100000 in
set_option maxHeartbeats 4000000 in
theorem lzst_any (bs : List UInt8) (A : Nat) (W D : Int) (F : Nat) (far : Int) (w : World) (h : FdAt 64 130 bs A W D F w) :
    Calls Try.prog 27 #[.pointer (some ⟨F, 0, none⟩), .int .i64 far] w fun e w' => ∃ g a c, e = .returned (.func (.func 46) #[] #[.pointer (some ⟨g, 0, none⟩)]) ∧ w.heap.size ≤ g ∧ Blk w' g [.slice a (lazyL bs A W D far).length c] 71 ∧ CellsAt w' a ((lazyL bs A W D far).flatMap stc) ∧ Below w.heap.size w w' := by
  by_cases he : lazyE far = 0
  · obtain ⟨kf, rfl, hkf⟩ := lazyE_ok he
    have HSt := hid (lzsteps_ok bs A W D F kf w h hkf)
    rw [← lazyL_nat hkf] at HSt
    clear h he
    generalize lazyL bs A W D (kf : Int) = L at *
    go_enter Try.func27, Try.ntmps27
    go_wp2_with fail
    refine HSt.out.mono ?_
    rintro e w1 ⟨v, rfl, hown, hb1⟩
    obtain ⟨av, cv, rfl⟩ := own_slice hown
    have hcl := (Sl.of_owns hown).cells' rfl
    have HC := hid (hcl.low (below_new w1 (.cells #[.slice av L.length cv] 71)))
    have HS := hid hb1.size
    have HB1 := hid (hb1.alloc hb1.size (.cells #[.slice av L.length cv] 71))
    clear hown hcl hb1 HSt
    go_wp2
    go_ret
    exact ⟨_, _, _, rfl, HS.out, Blk.new w1 [.slice av L.length cv] _, HC.out, HB1.out⟩
  · have HSt := hid (lzsteps_bad bs A W D F far w h he)
    have hl : lazyL bs A W D far = [] := by unfold lazyL; rw [if_neg he]
    rw [hl]
    clear h he hl
    go_enter Try.func27, Try.ntmps27
    go_wp2_with fail
    refine HSt.out.mono ?_
    rintro e w1 ⟨rfl, rfl⟩
    have HS := hid (Nat.le_refl w.heap.size)
    have HB1 := hid (below_new w (.cells #[.slice none 0 0] 71))
    go_wp2
    go_ret
    exact ⟨_, _, _, rfl, HS.out, Blk.new w [.slice none 0 0] _, fun j u hu => by simp at hu, HB1.out⟩

set_option maxRecDepth 100000 in
theorem lzst_none (q : Option Addr) (far : Int) (w : World) (h : NoFd q w) :
    Calls Try.prog 27 #[.pointer q, .int .i64 far] w fun e w' => ∃ g, e = .returned (.func (.func 46) #[] #[.pointer (some ⟨g, 0, none⟩)]) ∧ w.heap.size ≤ g ∧ Blk w' g [.slice none 0 0] 71 ∧ Below w.heap.size w w' := by
  have HSt := hid (lzsteps_none q far w h)
  clear h
  go_enter Try.func27, Try.ntmps27
  go_wp2_with fail
  refine HSt.out.mono ?_
  rintro e w1 ⟨rfl, rfl⟩
  go_wp2
  go_ret
  exact ⟨_, rfl, Nat.le_refl _, Blk.new w [.slice none 0 0] _, below_new w _⟩

end Go.Proofs.Ytclheffeiaaodaa
