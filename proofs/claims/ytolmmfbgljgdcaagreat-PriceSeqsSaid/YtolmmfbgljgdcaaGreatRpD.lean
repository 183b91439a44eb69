/-
  The repeated offsets (layer 21): finds, Value.
-/
import Derived.Test.YtolmmfbgljgdcaaGreatRpC
import Derived.Test.YtolmmfbgljgdcaaGreatPrF
import Derived.Recover
import Derived.Defers
namespace Go.Port
open Go.RowKit
/-- The value of an offset while the values k, .., 1 are still to be tried. -/
def vAt (r0 r1 r2 lit off k : Int) : Int := if k = 0 then valF r0 r1 r2 lit off else if k = 1 then (if (toldF r0 r1 r2 lit 2).1 = off then 2 else if (toldF r0 r1 r2 lit 3).1 = off then 3 else off + 3) else if k = 2 then (if (toldF r0 r1 r2 lit 3).1 = off then 3 else off + 3) else off + 3
theorem vAt_next {r0 r1 r2 lit off k : Int} (h1 : 1 ≤ k) (h3 : k ≤ 3) : vAt r0 r1 r2 lit off (k - 1) = if (toldF r0 r1 r2 lit k).1 = off then k else vAt r0 r1 r2 lit off k := by
  have hk : k = 1 ∨ k = 2 ∨ k = 3 := by omega
  rcases hk with rfl | rfl | rfl <;> simp [vAt, valF]
end Go.Port
namespace Go.Proofs.YtolmmfbgljgdcaaGreat
open Go.RowKit Go.Port

set_option maxRecDepth 100000 in
set_option maxHeartbeats 4000000 in
theorem rpfinds_ok (r0 r1 r2 lit len off : Int) (hr : rRight r0 r1 r2 = true) (hl : 0 ≤ lit) (hw : winOk off = true) (sB : Nat) (w : World) (h : Blk w sB [.int .i64 r0, .int .i64 r1, .int .i64 r2] 90) :
    Calls Tryz.prog 63 #[.pointer (some ⟨sB, 0, none⟩), .agg #[.int .i64 lit, .int .i64 len, .int .i64 off]] w fun e w' => e = .returned (.agg #[.int .i64 lit, .int .i64 len, .int .i64 (valF r0 r1 r2 lit off)]) ∧
      (∃ n0 n1 n2, nextF r0 r1 r2 (toldF r0 r1 r2 lit (valF r0 r1 r2 lit off)) = (n0, n1, n2) ∧ Blk w' sB [.int .i64 n0, .int .i64 n1, .int .i64 n2] 90) ∧ Mod sB (sB + 1) w w' := by
  have HRr := hid (fun W => by have h := rpright_any r0 r1 r2 W; rw [hr] at h; exact h)
  have hr0 : 1 ≤ r0 ∧ r0 ≤ 134217728 := winOk_true (by unfold rRight at hr; simp only [Bool.and_eq_true] at hr; exact hr.1.1)
  have hwo := winOk_true hw
  have HT := hid (fun W (j : Int) (h1 : 1 ≤ j) (h2 : j ≤ 134217731) h => rptold_any r0 r1 r2 lit j h1 h2 hr0 sB W h)
  have hvf := valF_told (r0 := r0) (r1 := r1) (r2 := r2) (lit := lit) hwo.1
  have HG := hid (fun W h => rpgoes_any r0 r1 r2 lit len (valF r0 r1 r2 lit off) hr hl hvf.2.1 (by omega) (by rw [hvf.1]; exact hw) sB W h)
  have hslt : sB < w.heap.size := h.lt
  have hb0 : Below w.heap.size w ((w.alloc (.cells #[.int .i64 lit, .int .i64 len, .int .i64 off] 42)).alloc (.cells #[.int .i64 0, .int .i64 0, .int .i64 0] 92)) := (below_new w _).alloc (by simp) _
  have HX1 := hid (show Blk ((w.alloc (.cells #[.int .i64 lit, .int .i64 len, .int .i64 off] 42)).alloc (.cells #[.int .i64 0, .int .i64 0, .int .i64 0] 92)) w.heap.size [.int .i64 lit, .int .i64 len, .int .i64 off] 42 from (Blk.newAt rfl).alloc _)
  have HZ1 := hid (show Blk ((w.alloc (.cells #[.int .i64 lit, .int .i64 len, .int .i64 off] 42)).alloc (.cells #[.int .i64 0, .int .i64 0, .int .i64 0] 92)) (w.heap.size + 1) [.int .i64 0, .int .i64 0, .int .i64 0] 92 from Blk.newAt (by simp))
  have HS1 := hid (h.below hb0 hslt)
  have HB1 := hid hb0
  have d1 : decide (1 ≤ off) = true := by simp; omega
  have d2 : decide (off ≤ 134217728) = true := by simp; omega
  have d4 : decide (0 ≤ lit) = true := by simp; omega
  have hw3 : IntKind.i64.wrap (off + 3) = off + 3 := by rw [IntKind.wrap_i64]; omega
  clear hr h hw hb0 hvf
  have c0 := HS1.out.cell (k := 0) rfl
  have c1 := HS1.out.cell (k := 1) rfl
  have c2 := HS1.out.cell (k := 2) rfl
  have x0 := HX1.out.cell (k := 0) rfl
  have x2 := HX1.out.cell (k := 2) rfl
  go_enter Tryz.func63, Tryz.ntmps63
  go_wp2_with fail
  clear c0 c1 c2 x0 x2
  generalize (w.alloc (.cells #[.int .i64 lit, .int .i64 len, .int .i64 off] 42)).alloc (.cells #[.int .i64 0, .int .i64 0, .int .i64 0] 92) = w1 at *
  refine (HRr.out _).mono ?_
  rintro e w2 ⟨rfl, hb⟩
  have HB2 := hid (HB1.out.trans (hb.mono HB1.out.size))
  have HX2 := hid (HX1.out.below hb HX1.out.lt)
  have HZ2 := hid (HZ1.out.below hb HZ1.out.lt)
  have HS2 := hid (HS1.out.below hb HS1.out.lt)
  clear hb HX1 HZ1 HS1 HB1 HRr
  have x0 := HX2.out.cell (k := 0) rfl
  have x2 := HX2.out.cell (k := 2) rfl
  go_wp2_with fail
  refine (rpmust_ok _ _).mono ?_
  rintro e w' ⟨rfl, rfl⟩
  go_wp2_with fail
  clear x0 x2 d1 d2 d4
  go_loopw [5, 6] (fun u i wr => ∃ k : Int, 0 ≤ k ∧ k ≤ 3 ∧ u = .int .i64 (vAt r0 r1 r2 lit off k) ∧ i = .int .i64 k ∧ Below w2.heap.size w2 wr) (fun _ i _ => (intOf i).toNat)
  case atStart => exact ⟨3, by omega, by omega, by simp [vAt], rfl, Below.refl _ _⟩
  case round =>
    obtain ⟨k, hk0, hk3, rfl, rfl, hb⟩ := hrel
    have HBw := hid hb
    have HBr := hid (HB2.out.trans (hb.mono HB2.out.size))
    have HXr := hid (HX2.out.below hb HX2.out.lt)
    have HZr := hid (HZ2.out.below hb HZ2.out.lt)
    have HSr := hid (HS2.out.below hb HS2.out.lt)
    clear hb
    have x0 := HXr.out.cell (k := 0) rfl
    have x1 := HXr.out.cell (k := 1) rfl
    have x2 := HXr.out.cell (k := 2) rfl
    by_cases hlt : 1 ≤ k
    · have hT := hid (HT.out wr k hlt (by omega) HSr.out)
      have hkw : IntKind.i64.wrap (k - 1) = k - 1 := by rw [IntKind.wrap_i64]; omega
      have hnx := vAt_next (r0 := r0) (r1 := r1) (r2 := r2) (lit := lit) (off := off) hlt hk3
      obtain ⟨o, a, ht⟩ : ∃ o a, toldF r0 r1 r2 lit k = (o, a) := ⟨_, _, rfl⟩
      rw [ht] at hT hnx
      dsimp only at hT hnx
      have HNx := hid hnx
      have HKb := hid (And.intro hlt hk3)
      clear hnx ht
      generalize vAt r0 r1 r2 lit off k = u at *
      go_wp2_with fail
      refine hT.out.mono ?_
      rintro e w4 ⟨rfl, hb⟩
      have HBw2 := hid (HBw.out.trans (hb.mono HBw.out.size))
      have x2b := (HXr.out.below hb HXr.out.lt).cell (k := 2) rfl
      clear hb hT
      by_cases he : o = off
      · have he2 : (o == off) = true := by simp; omega
        rw [if_pos he] at HNx
        go_wp2
        go_roundw
        case rel => exact ⟨k - 1, by have := HKb.out; omega, by omega, by rw [HNx.out], rfl, HBw2.out⟩
        case measure => have := HKb.out; simp [intOf]; omega
      · have he2 : (o == off) = false := by simp; omega
        rw [if_neg he] at HNx
        go_wp2
        go_roundw
        case rel => exact ⟨k - 1, by have := HKb.out; omega, by omega, by rw [HNx.out], rfl, HBw2.out⟩
        case measure => have := HKb.out; simp [intOf]; omega
    · obtain rfl : k = 0 := by omega
      rw [show vAt r0 r1 r2 lit off 0 = valF r0 r1 r2 lit off from by simp [vAt]]
      have hb := below_new wr (.cells #[.int .i64 lit, .int .i64 len, .int .i64 (valF r0 r1 r2 lit off)] 92)
      have HN5 := hid (Blk.new wr [.int .i64 lit, .int .i64 len, .int .i64 (valF r0 r1 r2 lit off)] 92)
      have HS5 := hid (HSr.out.below hb HSr.out.lt)
      have HZ5 := hid (HZr.out.below hb HZr.out.lt)
      have HB5 := hid (Mod.of_below (B := sB) (N := sB + 1) (HBr.out.trans (hb.mono HBr.out.size)))
      have hq : w.heap.size + 1 < wr.heap.size := HZr.out.lt
      clear hb HSr HZr
      have n0 := HN5.out.cell (k := 0) rfl
      have n1 := HN5.out.cell (k := 1) rfl
      have n2 := HN5.out.cell (k := 2) rfl
      generalize hV : valF r0 r1 r2 lit off = V at *
      go_upto_region 10 with fail
      clear x0 x1 x2
      generalize wr.alloc (.cells #[.int .i64 lit, .int .i64 len, .int .i64 V] 92) = w5 at *
      generalize wr.heap.size = q5 at *
      go_wp2_with fail
      refine (HG.out _ HS5.out).mono ?_
      rintro e w6 ⟨rfl, hn, hm⟩
      clear n0 n1 n2
      have HNx := hid hn
      have HZ6 := hid (hm.blk HZ5.out (.inr (by omega)))
      have HN6 := hid (hm.blk HN5.out (.inr (by omega)))
      have HM6 := hid (HB5.out.trans hm)
      have n0 := HN6.out.cell (k := 0) rfl
      have n1 := HN6.out.cell (k := 1) rfl
      have n2 := HN6.out.cell (k := 2) rfl
      clear hn hm
      have y0 := HZ6.out.cell (k := 0) rfl
      have z0 := HZ6.out.frozen 0
      have y1 := HZ6.out.cell (k := 1) rfl
      have z1 := HZ6.out.frozen 1
      have y2 := HZ6.out.cell (k := 2) rfl
      have z2 := HZ6.out.frozen 2
      go_wp2
      have HZs := hid (((HZ6.out.set 0 (.int .i64 lit)).set 1 (.int .i64 len)).set 2 (.int .i64 V))
      obtain ⟨m0, m1, m2, hnx, hsb⟩ := HNx.out
      have HSs := hid (((hsb.other (a := ⟨w.heap.size + 1, 0, none⟩) (.int .i64 lit) (by dsimp only; omega)).other (a := ⟨w.heap.size + 1, 1, none⟩) (.int .i64 len) (by dsimp only; omega)).other (a := ⟨w.heap.size + 1, 2, none⟩) (.int .i64 V) (by dsimp only; omega))
      have HBs := hid (((HM6.out.set (a := ⟨w.heap.size + 1, 0, none⟩) (.inr (by dsimp only; omega)) (.int .i64 lit)).set (a := ⟨w.heap.size + 1, 1, none⟩) (.inr (by dsimp only; omega)) (.int .i64 len)).set (a := ⟨w.heap.size + 1, 2, none⟩) (.inr (by dsimp only; omega)) (.int .i64 V))
      clear y0 y1 y2 z0 z1 z2 n0 n1 n2
      have p0 := HZs.out.cell (k := 0) rfl
      have p1 := HZs.out.cell (k := 1) rfl
      have p2 := HZs.out.cell (k := 2) rfl
      refine bodyPost_ret (v := .agg #[.int .i64 lit, .int .i64 len, .int .i64 V]) (by simp [results, Tryz.results63, go_sem, p0, p1, p2]) rfl ?_
      exact ⟨by rw [hV], ⟨_, _, _, by rw [hV]; exact hnx, HSs.out⟩, HBs.out⟩
theorem rpfinds_bad (r0 r1 r2 lit len off : Int) (hc : ¬ (rRight r0 r1 r2 = true ∧ 0 ≤ lit ∧ winOk off = true)) (sB : Nat) (w : World) (h : Blk w sB [.int .i64 r0, .int .i64 r1, .int .i64 r2] 90) :
    Calls Tryz.prog 63 #[.pointer (some ⟨sB, 0, none⟩), .agg #[.int .i64 lit, .int .i64 len, .int .i64 off]] w (PanV w 2) := by
  have hslt : sB < w.heap.size := h.lt
  have hb0 : Below w.heap.size w ((w.alloc (.cells #[.int .i64 lit, .int .i64 len, .int .i64 off] 42)).alloc (.cells #[.int .i64 0, .int .i64 0, .int .i64 0] 92)) := (below_new w _).alloc (by simp) _
  have HX1 := hid (show Blk ((w.alloc (.cells #[.int .i64 lit, .int .i64 len, .int .i64 off] 42)).alloc (.cells #[.int .i64 0, .int .i64 0, .int .i64 0] 92)) w.heap.size [.int .i64 lit, .int .i64 len, .int .i64 off] 42 from (Blk.newAt rfl).alloc _)
  have HS1 := hid (h.below hb0 hslt)
  have HB1 := hid hb0
  clear h hb0
  have c0 := HS1.out.cell (k := 0) rfl
  have c1 := HS1.out.cell (k := 1) rfl
  have c2 := HS1.out.cell (k := 2) rfl
  have x0 := HX1.out.cell (k := 0) rfl
  have x2 := HX1.out.cell (k := 2) rfl
  cases hr : rRight r0 r1 r2 with
  | false =>
    have HRr := hid (fun W => by have h := rpright_any r0 r1 r2 W; rw [hr] at h; exact h)
    go_enter Tryz.func63, Tryz.ntmps63
    go_wp2_with fail
    clear c0 c1 c2 x0 x2
    generalize (w.alloc (.cells #[.int .i64 lit, .int .i64 len, .int .i64 off] 42)).alloc (.cells #[.int .i64 0, .int .i64 0, .int .i64 0] 92) = w1 at *
    refine (HRr.out _).mono ?_
    rintro e w2 ⟨rfl, hb⟩
    have HB2 := hid (HB1.out.trans (hb.mono HB1.out.size))
    have HX2 := hid (HX1.out.below hb HX1.out.lt)
    clear hb
    have x0 := HX2.out.cell (k := 0) rfl
    have x2 := HX2.out.cell (k := 2) rfl
    go_wp2_with fail
    refine (rpmust_bad _ _).mono ?_
    rintro e w' ⟨rfl, rfl⟩
    go_wp2
    exact ⟨rfl, rfl, HB2.out⟩
  | true =>
    have HRr := hid (fun W => by have h := rpright_any r0 r1 r2 W; rw [hr] at h; exact h)
    by_cases hl : 0 ≤ lit
    · have d4 : decide (0 ≤ lit) = true := by simp; omega
      cases hw : winOk off with
      | true => exact absurd ⟨hr, hl, hw⟩ hc
      | false =>
        clear hc hr
        rcases winOk_false hw with hw | hw
        · have d1 : decide (1 ≤ off) = false := by simp; omega
          go_enter Tryz.func63, Tryz.ntmps63
          go_wp2_with fail
          clear c0 c1 c2 x0 x2
          generalize (w.alloc (.cells #[.int .i64 lit, .int .i64 len, .int .i64 off] 42)).alloc (.cells #[.int .i64 0, .int .i64 0, .int .i64 0] 92) = w1 at *
          refine (HRr.out _).mono ?_
          rintro e w2 ⟨rfl, hb⟩
          have HB2 := hid (HB1.out.trans (hb.mono HB1.out.size))
          have HX2 := hid (HX1.out.below hb HX1.out.lt)
          clear hb
          have x0 := HX2.out.cell (k := 0) rfl
          have x2 := HX2.out.cell (k := 2) rfl
          go_wp2_with fail
          refine (rpmust_bad _ _).mono ?_
          rintro e w' ⟨rfl, rfl⟩
          go_wp2
          exact ⟨rfl, rfl, HB2.out⟩
        · have d1 : decide (1 ≤ off) = true := by simp; omega
          have d2 : decide (off ≤ 134217728) = false := by simp; omega
          go_enter Tryz.func63, Tryz.ntmps63
          go_wp2_with fail
          clear c0 c1 c2 x0 x2
          generalize (w.alloc (.cells #[.int .i64 lit, .int .i64 len, .int .i64 off] 42)).alloc (.cells #[.int .i64 0, .int .i64 0, .int .i64 0] 92) = w1 at *
          refine (HRr.out _).mono ?_
          rintro e w2 ⟨rfl, hb⟩
          have HB2 := hid (HB1.out.trans (hb.mono HB1.out.size))
          have HX2 := hid (HX1.out.below hb HX1.out.lt)
          clear hb
          have x0 := HX2.out.cell (k := 0) rfl
          have x2 := HX2.out.cell (k := 2) rfl
          go_wp2_with fail
          refine (rpmust_bad _ _).mono ?_
          rintro e w' ⟨rfl, rfl⟩
          go_wp2
          exact ⟨rfl, rfl, HB2.out⟩
    · have d4 : decide (0 ≤ lit) = false := by simp; omega
      clear hc hr
      go_enter Tryz.func63, Tryz.ntmps63
      go_wp2_with fail
      clear c0 c1 c2 x0 x2
      generalize (w.alloc (.cells #[.int .i64 lit, .int .i64 len, .int .i64 off] 42)).alloc (.cells #[.int .i64 0, .int .i64 0, .int .i64 0] 92) = w1 at *
      refine (HRr.out _).mono ?_
      rintro e w2 ⟨rfl, hb⟩
      have HB2 := hid (HB1.out.trans (hb.mono HB1.out.size))
      have HX2 := hid (HX1.out.below hb HX1.out.lt)
      clear hb
      have x0 := HX2.out.cell (k := 0) rfl
      have x2 := HX2.out.cell (k := 2) rfl
      go_wp2_with fail
      refine (rpmust_bad _ _).mono ?_
      rintro e w' ⟨rfl, rfl⟩
      go_wp2
      exact ⟨rfl, rfl, HB2.out⟩
theorem rpiface_nil (w : World) : (binOp BinOp.eql 20 .nilIface .nilIface).run Tryz.prog w = .ok (.bool true) w := by kernel_rfl
theorem rpiface_err (n : Int) (w : World) : (binOp BinOp.eql 20 (.iface 33 (.int .i64 n)) .nilIface).run Tryz.prog w = .ok (.bool false) w := by kernel_rfl
set_option maxRecDepth 100000 in
set_option maxHeartbeats 400000 in
theorem rpcaught_idle (p : Addr) (v : Value) (w : World) :
    CallsD Tryz.prog 61 #[.pointer (some p), v] .returning w fun e u' w' => e = .returned (.tuple #[]) ∧ u' = .returning ∧ w' = w := by
  have hnil := rpiface_nil
  refine callsD_of_wpS Tryz.func61 rfl fun c₀ cs hu => ?_
  simp only [Tryz.ntmps61, List.size_toArray, List.length_cons, List.length_nil, Nat.reduceAdd, Nat.reduceSub, Array.replicate_succ,
     Array.replicate_zero, List.push_toArray, List.append_toArray, List.nil_append, List.cons_append]
  apply wpS_seq
  apply wpS_region
  generalize hQ : (Exit.thenS _ _ : Exit → Act → List Frame → World → Prop) = Q
  simp [wpOpsS, go_sem, recoverD, hu]
  subst hQ
  dsimp only [Exit.thenS]
  refine wpS_of_wp ?_
  go_wp2
  exact ⟨rfl, .returning, by cases c₀; simp_all, .tuple #[], results_none rfl _ _ _, rfl, rfl, rfl⟩
set_option maxRecDepth 100000 in
set_option maxHeartbeats 400000 in
theorem rpcaught_err (p : Addr) (n x : Int) (f : FuncId) (cap : Array Value) (w w1 : World) (hen : ∀ args w, (callFunc f args).run Tryz.prog w = .ok (.enter f args) w) (hf : Calls Tryz.prog f cap w fun e w' => e = .returned (.tuple #[]) ∧ w1 = w') (hc : w1.cell? p = some (.int .i64 x)) (hz : w1.frozen? p = false) :
    CallsD Tryz.prog 61 #[.pointer (some p), .func (.func f) #[] cap] (.panicking [{ v := .iface 33 (.int .i64 n), recovered := false }]) w fun e u' w' =>
      e = .returned (.tuple #[]) ∧ u' = .panicking [{ v := .iface 33 (.int .i64 n), recovered := true }] ∧ w' = w1.setCell p (.int .i64 n) := by
  have herr := rpiface_err n
  have hta := priface_is n
  refine callsD_of_wpS Tryz.func61 rfl fun c₀ cs hu => ?_
  simp only [Tryz.ntmps61, List.size_toArray, List.length_cons, List.length_nil, Nat.reduceAdd, Nat.reduceSub, Array.replicate_succ,
     Array.replicate_zero, List.push_toArray, List.append_toArray, List.nil_append, List.cons_append]
  apply wpS_seq
  apply wpS_region
  generalize hQ : (Exit.thenS _ _ : Exit → Act → List Frame → World → Prop) = Q
  simp [wpOpsS, go_sem, recoverD, hu]
  subst hQ
  dsimp only [Exit.thenS]
  refine wpS_of_wp ?_
  go_wp2_with fail
  refine hf.mono ?_
  rintro e w' ⟨rfl, rfl⟩
  go_wp2
  exact ⟨rfl, _, by cases c₀; simp_all, .tuple #[], results_none rfl _ _ _, rfl, rfl, rfl⟩
theorem rpfield2 (a b c : Int) (w : World) : (Instr.field 92 (.agg #[.int .i64 a, .int .i64 b, .int .i64 c]) 2).run Tryz.prog w = .ok (.int .i64 c) w := by kernel_rfl
theorem rpvalue1_any (p q : Nat) (hpq : p ≠ q) (x y0 y1 y2 : Value) (t t' : TypeId) (w : World) (h : Blk w p [x] t) (h' : Blk w q [y0, y1, y2] t') :
    Calls Tryz.prog 62 #[.pointer (some ⟨p, 0, none⟩), .pointer (some ⟨q, 0, none⟩)] w fun e w' => e = .returned (.tuple #[]) ∧ (((w.setCell ⟨p, 0, none⟩ (.int .i64 0)).setCell ⟨q, 0, none⟩ (.int .i64 0)).setCell ⟨q, 1, none⟩ (.int .i64 0)).setCell ⟨q, 2, none⟩ (.int .i64 0) = w' := by
  have c := h.cell (k := 0) rfl
  have z := h.frozen 0
  have h2 := h'.other (a := ⟨p, 0, none⟩) (.int .i64 0) hpq
  have y0 := h2.cell (k := 0) rfl
  have y1 := h2.cell (k := 1) rfl
  have y2 := h2.cell (k := 2) rfl
  have z0 := h2.frozen 0
  have z1 := h2.frozen 1
  have z2 := h2.frozen 2
  go_enter Tryz.func62, Tryz.ntmps62
  go_wp2
  go_end0
  exact ⟨rfl, rfl⟩
set_option maxRecDepth 100000 in
set_option maxHeartbeats 4000000 in
theorem rpvalue_bad (r0 r1 r2 lit len off : Int) (hc : ¬ (rRight r0 r1 r2 = true ∧ 0 ≤ lit ∧ winOk off = true)) (w : World) :
    Calls Tryz.prog 31 #[.agg #[.int .i64 r0, .int .i64 r1, .int .i64 r2], .agg #[.int .i64 lit, .int .i64 len, .int .i64 off]] w (RetV w (.tuple #[.int .i64 0, .agg #[.int .i64 0, .int .i64 0, .int .i64 0], .int .i64 2])) := by
  have HF := hid (fun sB W h => rpfinds_bad r0 r1 r2 lit len off hc sB W h)
  clear hc
  have HX1 := hid (show Blk (((((w.alloc (.cells #[.int .i64 r0, .int .i64 r1, .int .i64 r2] 40)).alloc (.cells #[.int .i64 lit, .int .i64 len, .int .i64 off] 42)).alloc (.cells #[.int .i64 0] 3)).alloc (.cells #[.int .i64 0, .int .i64 0, .int .i64 0] 40)).alloc (.cells #[.int .i64 0] 33)) w.heap.size [.int .i64 r0, .int .i64 r1, .int .i64 r2] 40 from ((((Blk.newAt rfl).alloc _).alloc _).alloc _).alloc _)
  have HY1 := hid (show Blk (((((w.alloc (.cells #[.int .i64 r0, .int .i64 r1, .int .i64 r2] 40)).alloc (.cells #[.int .i64 lit, .int .i64 len, .int .i64 off] 42)).alloc (.cells #[.int .i64 0] 3)).alloc (.cells #[.int .i64 0, .int .i64 0, .int .i64 0] 40)).alloc (.cells #[.int .i64 0] 33)) (w.heap.size + 1) [.int .i64 lit, .int .i64 len, .int .i64 off] 42 from (((Blk.newAt (by simp)).alloc _).alloc _).alloc _)
  have HV1 := hid (show Blk (((((w.alloc (.cells #[.int .i64 r0, .int .i64 r1, .int .i64 r2] 40)).alloc (.cells #[.int .i64 lit, .int .i64 len, .int .i64 off] 42)).alloc (.cells #[.int .i64 0] 3)).alloc (.cells #[.int .i64 0, .int .i64 0, .int .i64 0] 40)).alloc (.cells #[.int .i64 0] 33)) (w.heap.size + 1 + 1) [.int .i64 0] 3 from ((Blk.newAt (by simp)).alloc _).alloc _)
  have HT1 := hid (show Blk (((((w.alloc (.cells #[.int .i64 r0, .int .i64 r1, .int .i64 r2] 40)).alloc (.cells #[.int .i64 lit, .int .i64 len, .int .i64 off] 42)).alloc (.cells #[.int .i64 0] 3)).alloc (.cells #[.int .i64 0, .int .i64 0, .int .i64 0] 40)).alloc (.cells #[.int .i64 0] 33)) (w.heap.size + 1 + 1 + 1) [.int .i64 0, .int .i64 0, .int .i64 0] 40 from (Blk.newAt (by simp)).alloc _)
  have HE1 := hid (show Blk (((((w.alloc (.cells #[.int .i64 r0, .int .i64 r1, .int .i64 r2] 40)).alloc (.cells #[.int .i64 lit, .int .i64 len, .int .i64 off] 42)).alloc (.cells #[.int .i64 0] 3)).alloc (.cells #[.int .i64 0, .int .i64 0, .int .i64 0] 40)).alloc (.cells #[.int .i64 0] 33)) (w.heap.size + 1 + 1 + 1 + 1) [.int .i64 0] 33 from Blk.newAt (by simp))
  have HB1 := hid (show Below w.heap.size w (((((w.alloc (.cells #[.int .i64 r0, .int .i64 r1, .int .i64 r2] 40)).alloc (.cells #[.int .i64 lit, .int .i64 len, .int .i64 off] 42)).alloc (.cells #[.int .i64 0] 3)).alloc (.cells #[.int .i64 0, .int .i64 0, .int .i64 0] 40)).alloc (.cells #[.int .i64 0] 33)) from ((((below_new w _).alloc (by simp) _).alloc (by simp; omega) _).alloc (by simp; omega) _).alloc (by simp; omega) _)
  have c0 := HX1.out.cell (k := 0) rfl
  have c1 := HX1.out.cell (k := 1) rfl
  have c2 := HX1.out.cell (k := 2) rfl
  go_enter_defers Tryz.func31, Tryz.ntmps31
  go_upto_region 2 with fail
  generalize ((((w.alloc (.cells #[.int .i64 r0, .int .i64 r1, .int .i64 r2] 40)).alloc (.cells #[.int .i64 lit, .int .i64 len, .int .i64 off] 42)).alloc (.cells #[.int .i64 0] 3)).alloc (.cells #[.int .i64 0, .int .i64 0, .int .i64 0] 40)).alloc (.cells #[.int .i64 0] 33) = w1 at *
  have hb := below_new w1 (.cells #[.int .i64 r0, .int .i64 r1, .int .i64 r2] 90)
  have HS2 := hid (Blk.new w1 [.int .i64 r0, .int .i64 r1, .int .i64 r2] 90)
  have HB2 := hid (HB1.out.trans (hb.mono HB1.out.size))
  have HX2 := hid (HX1.out.below hb HX1.out.lt)
  have HV2 := hid (HV1.out.below hb HV1.out.lt)
  have HT2 := hid (HT1.out.below hb HT1.out.lt)
  have HE2 := hid (HE1.out.below hb HE1.out.lt)
  have HY2 := hid (HY1.out.below hb HY1.out.lt)
  have hq : w.heap.size + 1 + 1 + 1 + 1 < w1.heap.size := HE1.out.lt
  clear hb HX1 HV1 HT1 HE1 HY1 HB1
  have e0 := HY2.out.cell (k := 0) rfl
  have e1 := HY2.out.cell (k := 1) rfl
  have e2 := HY2.out.cell (k := 2) rfl
  go_upto_region 3 with fail
  clear c0 c1 c2
  generalize w1.alloc (.cells #[.int .i64 r0, .int .i64 r1, .int .i64 r2] 90) = w2 at *
  generalize w1.heap.size = sB at *
  go_wp2_with fail
  clear e0 e1 e2
  refine (HF.out _ _ HS2.out).mono ?_
  rintro e w3 ⟨rfl, hb⟩
  have HB3 := hid (HB2.out.trans (hb.mono HB2.out.size))
  have HV3 := hid (HV2.out.below hb HV2.out.lt)
  have HT3 := hid (HT2.out.below hb HT2.out.lt)
  have HE3 := hid (HE2.out.below hb HE2.out.lt)
  clear hb HX2 HS2 HV2 HT2 HE2 HY2 HB2 HF
  have HC1 := hid (rpvalue1_any (w.heap.size + 1 + 1) (w.heap.size + 1 + 1 + 1) (by omega) _ _ _ _ _ _ w3 HV3.out HT3.out)
  have HEe := hid (((((HE3.out.other (a := ⟨w.heap.size + 1 + 1, 0, none⟩) (.int .i64 0) (by dsimp only; omega)).other (a := ⟨w.heap.size + 1 + 1 + 1, 0, none⟩) (.int .i64 0) (by dsimp only; omega)).other (a := ⟨w.heap.size + 1 + 1 + 1, 1, none⟩) (.int .i64 0) (by dsimp only; omega)).other (a := ⟨w.heap.size + 1 + 1 + 1, 2, none⟩) (.int .i64 0) (by dsimp only; omega)))
  have HVv := hid ((((((HV3.out.set 0 (.int .i64 0)).other (a := ⟨w.heap.size + 1 + 1 + 1, 0, none⟩) (.int .i64 0) (by dsimp only; omega)).other (a := ⟨w.heap.size + 1 + 1 + 1, 1, none⟩) (.int .i64 0) (by dsimp only; omega)).other (a := ⟨w.heap.size + 1 + 1 + 1, 2, none⟩) (.int .i64 0) (by dsimp only; omega))).other (a := ⟨w.heap.size + 1 + 1 + 1 + 1, 0, none⟩) (.int .i64 2) (by dsimp only; omega))
  have HTt := hid ((((((HT3.out.other (a := ⟨w.heap.size + 1 + 1, 0, none⟩) (.int .i64 0) (by dsimp only; omega)).set 0 (.int .i64 0)).set 1 (.int .i64 0)).set 2 (.int .i64 0))).other (a := ⟨w.heap.size + 1 + 1 + 1 + 1, 0, none⟩) (.int .i64 2) (by dsimp only; omega))
  have HEs := hid (HEe.out.set 0 (.int .i64 2))
  have HBs := hid (((((HB3.out.setCell (p := ⟨w.heap.size + 1 + 1, 0, none⟩) (by dsimp only; omega) (.int .i64 0)).setCell (p := ⟨w.heap.size + 1 + 1 + 1, 0, none⟩) (by dsimp only; omega) (.int .i64 0)).setCell (p := ⟨w.heap.size + 1 + 1 + 1, 1, none⟩) (by dsimp only; omega) (.int .i64 0)).setCell (p := ⟨w.heap.size + 1 + 1 + 1, 2, none⟩) (by dsimp only; omega) (.int .i64 0)).setCell (p := ⟨w.heap.size + 1 + 1 + 1 + 1, 0, none⟩) (by dsimp only; omega) (.int .i64 2))
  go_wp2_with fail
  refine leaves_cons (f := 61) (args := #[.pointer (some ⟨w.heap.size + 1 + 1 + 1 + 1, 0, none⟩), .func (.func 62) #[] #[.pointer (some ⟨w.heap.size + 1 + 1, 0, none⟩), .pointer (some ⟨w.heap.size + 1 + 1 + 1, 0, none⟩)]]) (by simp) (by simp [go_sem]) ?_
  refine (rpcaught_err ⟨w.heap.size + 1 + 1 + 1 + 1, 0, none⟩ 2 0 62 _ w3 _ (fun _ _ => by kernel_rfl) HC1.out (HEe.out.cell (k := 0) rfl) (HEe.out.frozen 0)).mono ?_
  rintro e u' w'' ⟨rfl, rfl, rfl⟩
  refine ⟨_, ?_, rfl, HBs.out⟩
  have p0 := HVv.out.cell (k := 0) rfl
  have p1 := HTt.out.cell (k := 0) rfl
  have p2 := HTt.out.cell (k := 1) rfl
  have p3 := HTt.out.cell (k := 2) rfl
  have p4 := HEs.out.cell (k := 0) rfl
  generalize ((((w3.setCell ⟨w.heap.size + 1 + 1, 0, none⟩ (.int .i64 0)).setCell ⟨w.heap.size + 1 + 1 + 1, 0, none⟩ (.int .i64 0)).setCell ⟨w.heap.size + 1 + 1 + 1, 1, none⟩ (.int .i64 0)).setCell ⟨w.heap.size + 1 + 1 + 1, 2, none⟩ (.int .i64 0)).setCell ⟨w.heap.size + 1 + 1 + 1 + 1, 0, none⟩ (.int .i64 2) = w9 at *
  simp [results, Tryz.results31, go_sem, p0, p1, p2, p3, p4]
set_option maxRecDepth 100000 in
set_option maxHeartbeats 4000000 in
theorem rpvalue_ok (r0 r1 r2 lit len off : Int) (hr : rRight r0 r1 r2 = true) (hl : 0 ≤ lit) (hw : winOk off = true) (w : World) :
    Calls Tryz.prog 31 #[.agg #[.int .i64 r0, .int .i64 r1, .int .i64 r2], .agg #[.int .i64 lit, .int .i64 len, .int .i64 off]] w (RetV w (.tuple #[.int .i64 (valF r0 r1 r2 lit off), nxtV (nextF r0 r1 r2 (toldF r0 r1 r2 lit (valF r0 r1 r2 lit off))), .int .i64 0])) := by
  have HF := hid (fun sB W h => rpfinds_ok r0 r1 r2 lit len off hr hl hw sB W h)
  clear hr hl hw
  generalize hV : (Value.tuple #[.int .i64 (valF r0 r1 r2 lit off), nxtV (nextF r0 r1 r2 (toldF r0 r1 r2 lit (valF r0 r1 r2 lit off))), .int .i64 0]) = U
  have HV := hid hV
  clear hV
  have HX1 := hid (show Blk (((((w.alloc (.cells #[.int .i64 r0, .int .i64 r1, .int .i64 r2] 40)).alloc (.cells #[.int .i64 lit, .int .i64 len, .int .i64 off] 42)).alloc (.cells #[.int .i64 0] 3)).alloc (.cells #[.int .i64 0, .int .i64 0, .int .i64 0] 40)).alloc (.cells #[.int .i64 0] 33)) w.heap.size [.int .i64 r0, .int .i64 r1, .int .i64 r2] 40 from ((((Blk.newAt rfl).alloc _).alloc _).alloc _).alloc _)
  have HY1 := hid (show Blk (((((w.alloc (.cells #[.int .i64 r0, .int .i64 r1, .int .i64 r2] 40)).alloc (.cells #[.int .i64 lit, .int .i64 len, .int .i64 off] 42)).alloc (.cells #[.int .i64 0] 3)).alloc (.cells #[.int .i64 0, .int .i64 0, .int .i64 0] 40)).alloc (.cells #[.int .i64 0] 33)) (w.heap.size + 1) [.int .i64 lit, .int .i64 len, .int .i64 off] 42 from (((Blk.newAt (by simp)).alloc _).alloc _).alloc _)
  have HV1 := hid (show Blk (((((w.alloc (.cells #[.int .i64 r0, .int .i64 r1, .int .i64 r2] 40)).alloc (.cells #[.int .i64 lit, .int .i64 len, .int .i64 off] 42)).alloc (.cells #[.int .i64 0] 3)).alloc (.cells #[.int .i64 0, .int .i64 0, .int .i64 0] 40)).alloc (.cells #[.int .i64 0] 33)) (w.heap.size + 1 + 1) [.int .i64 0] 3 from ((Blk.newAt (by simp)).alloc _).alloc _)
  have HT1 := hid (show Blk (((((w.alloc (.cells #[.int .i64 r0, .int .i64 r1, .int .i64 r2] 40)).alloc (.cells #[.int .i64 lit, .int .i64 len, .int .i64 off] 42)).alloc (.cells #[.int .i64 0] 3)).alloc (.cells #[.int .i64 0, .int .i64 0, .int .i64 0] 40)).alloc (.cells #[.int .i64 0] 33)) (w.heap.size + 1 + 1 + 1) [.int .i64 0, .int .i64 0, .int .i64 0] 40 from (Blk.newAt (by simp)).alloc _)
  have HE1 := hid (show Blk (((((w.alloc (.cells #[.int .i64 r0, .int .i64 r1, .int .i64 r2] 40)).alloc (.cells #[.int .i64 lit, .int .i64 len, .int .i64 off] 42)).alloc (.cells #[.int .i64 0] 3)).alloc (.cells #[.int .i64 0, .int .i64 0, .int .i64 0] 40)).alloc (.cells #[.int .i64 0] 33)) (w.heap.size + 1 + 1 + 1 + 1) [.int .i64 0] 33 from Blk.newAt (by simp))
  have HB1 := hid (show Below w.heap.size w (((((w.alloc (.cells #[.int .i64 r0, .int .i64 r1, .int .i64 r2] 40)).alloc (.cells #[.int .i64 lit, .int .i64 len, .int .i64 off] 42)).alloc (.cells #[.int .i64 0] 3)).alloc (.cells #[.int .i64 0, .int .i64 0, .int .i64 0] 40)).alloc (.cells #[.int .i64 0] 33)) from ((((below_new w _).alloc (by simp) _).alloc (by simp; omega) _).alloc (by simp; omega) _).alloc (by simp; omega) _)
  have c0 := HX1.out.cell (k := 0) rfl
  have c1 := HX1.out.cell (k := 1) rfl
  have c2 := HX1.out.cell (k := 2) rfl
  go_enter_defers Tryz.func31, Tryz.ntmps31
  go_upto_region 2 with fail
  generalize ((((w.alloc (.cells #[.int .i64 r0, .int .i64 r1, .int .i64 r2] 40)).alloc (.cells #[.int .i64 lit, .int .i64 len, .int .i64 off] 42)).alloc (.cells #[.int .i64 0] 3)).alloc (.cells #[.int .i64 0, .int .i64 0, .int .i64 0] 40)).alloc (.cells #[.int .i64 0] 33) = w1 at *
  have hb := below_new w1 (.cells #[.int .i64 r0, .int .i64 r1, .int .i64 r2] 90)
  have HS2 := hid (Blk.new w1 [.int .i64 r0, .int .i64 r1, .int .i64 r2] 90)
  have HB2 := hid (HB1.out.trans (hb.mono HB1.out.size))
  have HX2 := hid (HX1.out.below hb HX1.out.lt)
  have HV2 := hid (HV1.out.below hb HV1.out.lt)
  have HT2 := hid (HT1.out.below hb HT1.out.lt)
  have HE2 := hid (HE1.out.below hb HE1.out.lt)
  have HY2 := hid (HY1.out.below hb HY1.out.lt)
  have hq : w.heap.size + 1 + 1 + 1 + 1 < w1.heap.size := HE1.out.lt
  clear hb HX1 HV1 HT1 HE1 HY1 HB1
  have e0 := HY2.out.cell (k := 0) rfl
  have e1 := HY2.out.cell (k := 1) rfl
  have e2 := HY2.out.cell (k := 2) rfl
  go_upto_region 3 with fail
  clear c0 c1 c2
  generalize w1.alloc (.cells #[.int .i64 r0, .int .i64 r1, .int .i64 r2] 90) = w2 at *
  generalize w1.heap.size = sB at *
  go_wp2_with fail
  clear e0 e1 e2
  refine (HF.out _ _ HS2.out).mono ?_
  rintro e w3 ⟨rfl, ⟨n0, n1, n2, hn, hs⟩, hm⟩
  have hV := HV.out
  rw [hn] at hV
  subst hV
  generalize valF r0 r1 r2 lit off = v at *
  have HS3 := hid hs
  have HV3 := hid (hm.blk HV2.out (.inl (by omega)))
  have HT3 := hid (hm.blk HT2.out (.inl (by omega)))
  have HE3 := hid (hm.blk HE2.out (.inl (by omega)))
  have HB3 := hid (HB2.out.trans ((hm.wide (B' := w.heap.size) (N' := sB + 1) (by omega) (Nat.le_refl _)).below HB2.out.size))
  clear hm hs hn HX2 HS2 HV2 HT2 HE2 HY2 HB2 HF
  have y0 := HV3.out.cell (k := 0) rfl
  have z0 := HV3.out.frozen 0
  have hfld := rpfield2 lit len v
  go_upto_region 4 with fail
  clear y0 z0 hfld
  have HV4 := hid (HV3.out.set 0 (.int .i64 v))
  have HS4 := hid (HS3.out.other (a := ⟨w.heap.size + 1 + 1, 0, none⟩) (.int .i64 v) (by dsimp only; omega))
  have HT4 := hid (HT3.out.other (a := ⟨w.heap.size + 1 + 1, 0, none⟩) (.int .i64 v) (by dsimp only; omega))
  have HE4 := hid (HE3.out.other (a := ⟨w.heap.size + 1 + 1, 0, none⟩) (.int .i64 v) (by dsimp only; omega))
  have HB4 := hid (HB3.out.setCell (p := ⟨w.heap.size + 1 + 1, 0, none⟩) (by dsimp only; omega) (.int .i64 v))
  clear HV3 HS3 HT3 HE3 HB3
  generalize w3.setCell ⟨w.heap.size + 1 + 1, 0, none⟩ (.int .i64 v) = w4 at *
  have hb : Below w4.heap.size w4 w4.drew := (Below.refl _ _).drew
  have HB5 := hid (HB4.out.trans (hb.mono HB4.out.size))
  have HV5 := hid (HV4.out.below hb HV4.out.lt)
  have HT5 := hid (HT4.out.below hb HT4.out.lt)
  have HE5 := hid (HE4.out.below hb HE4.out.lt)
  have HS5 := hid (HS4.out.below hb HS4.out.lt)
  clear hb HV4 HS4 HT4 HE4 HB4
  refine wp_region_noPanic ?_
  refine wp_region_held_drew (S := fun W' => W'.cell? ⟨w.heap.size + 1 + 1, 0, none⟩ = some (.int .i64 v) ∧ Blk W' sB [.int .i64 n0, .int .i64 n1, .int .i64 n2] 90) (by kernel_rfl) ⟨HV5.out.cell (k := 0) rfl, HS5.out⟩ (fun hHeld => ?_)
  generalize w4.drew = w5 at *
  refine wpAnyH_take (i := 0) (v := .int .i64 v) (by simp only [List.getElem?_toArray, List.getElem?_cons_zero]; rfl) (by kernel_rfl) (by kernel_rfl) (by kernel_rfl) (fun _ _ _ h => h) (Or.inl ⟨by rfl, fun W hSw => ?_⟩) (by assumption) ?_
  · have hcw := hSw.1
    go_simp
  simp only [Act.put, List.setIfInBounds_toArray, List.set_cons_zero, List.set_cons_succ]
  refine wpAnyH_take (i := 1) (v := .pointer (some ⟨sB, 0, none⟩)) (by simp only [List.getElem?_toArray, List.getElem?_cons_zero, List.getElem?_cons_succ]; rfl) (by kernel_rfl) (by kernel_rfl) (by kernel_rfl) (fun _ _ _ h => h) (Or.inl ⟨by rfl, fun W hSw => ?_⟩) (by assumption) ?_
  · clear hSw
    go_simp
  simp only [Act.put, List.setIfInBounds_toArray, List.set_cons_zero, List.set_cons_succ]
  refine wpAnyH_take (i := 2) (v := .pointer (some ⟨sB, 0, none⟩)) (by simp only [List.getElem?_toArray, List.getElem?_cons_zero, List.getElem?_cons_succ]; rfl) (by kernel_rfl) (by kernel_rfl) (by kernel_rfl) (fun _ _ _ h => h) (Or.inl ⟨by rfl, fun W hSw => ?_⟩) (by assumption) ?_
  · clear hSw
    go_simp
  simp only [Act.put, List.setIfInBounds_toArray, List.set_cons_zero, List.set_cons_succ]
  refine wpAnyH_take (i := 3) (v := .pointer (some ⟨sB, 0, none⟩)) (by simp only [List.getElem?_toArray, List.getElem?_cons_zero, List.getElem?_cons_succ]; rfl) (by kernel_rfl) (by kernel_rfl) (by kernel_rfl) (fun _ _ _ h => h) (Or.inl ⟨by rfl, fun W hSw => ?_⟩) (by assumption) ?_
  · clear hSw
    go_simp
  simp only [Act.put, List.setIfInBounds_toArray, List.set_cons_zero, List.set_cons_succ]
  refine wpAnyH_take (i := 4) (v := .agg #[.int .i64 n0, .int .i64 n1, .int .i64 n2]) (by simp only [List.getElem?_toArray, List.getElem?_cons_zero, List.getElem?_cons_succ]; rfl) (by kernel_rfl) (by kernel_rfl) (by kernel_rfl) (fun _ _ _ h => h) (Or.inl ⟨by rfl, fun W hSw => ?_⟩) (by assumption) ?_
  · have hcw0 := hSw.2.cell (k := 0) rfl
    have hcw1 := hSw.2.cell (k := 1) rfl
    have hcw2 := hSw.2.cell (k := 2) rfl
    go_simp
  simp only [Act.put, List.setIfInBounds_toArray, List.set_cons_zero, List.set_cons_succ]
  have y0 := HV5.out.cell (k := 0) rfl
  have z0 := HV5.out.frozen 0
  have HV6 := hid (HV5.out.set 0 (.int .i64 v))
  have HS6 := hid (HS5.out.other (a := ⟨w.heap.size + 1 + 1, 0, none⟩) (.int .i64 v) (by dsimp only; omega))
  have HT6 := hid (HT5.out.other (a := ⟨w.heap.size + 1 + 1, 0, none⟩) (.int .i64 v) (by dsimp only; omega))
  have HE6 := hid (HE5.out.other (a := ⟨w.heap.size + 1 + 1, 0, none⟩) (.int .i64 v) (by dsimp only; omega))
  have HB6 := hid (HB5.out.setCell (p := ⟨w.heap.size + 1 + 1, 0, none⟩) (by dsimp only; omega) (.int .i64 v))
  refine wpAnyH_ready (rs := [5]) (by kernel_rfl) (by simp) ?_
  refine AllReadyH.cons (by simp only [List.getElem?_toArray, List.getElem?_cons_zero, List.getElem?_cons_succ]; rfl) (fun K hK => ?_) AllReadyH.nil
  rw [if_pos (by rfl)]
  go_simp
  refine hK.out _ _ ⟨HV6.out.cell (k := 0) rfl, HS6.out⟩ (fun _ => ?_)
  clear hK K
  clear y0 z0 HV5 HS5 HT5 HE5 HB5
  generalize w5.setCell ⟨w.heap.size + 1 + 1, 0, none⟩ (.int .i64 v) = w6 at *
  have y0 := HT6.out.cell (k := 0) rfl
  have z0 := HT6.out.frozen 0
  have y1 := HT6.out.cell (k := 1) rfl
  have z1 := HT6.out.frozen 1
  have y2 := HT6.out.cell (k := 2) rfl
  have z2 := HT6.out.frozen 2
  have HT7 := hid (((HT6.out.set 0 (.int .i64 n0)).set 1 (.int .i64 n1)).set 2 (.int .i64 n2))
  have HV7 := hid (((HV6.out.other (a := ⟨w.heap.size + 1 + 1 + 1, 0, none⟩) (.int .i64 n0) (by dsimp only; omega)).other (a := ⟨w.heap.size + 1 + 1 + 1, 1, none⟩) (.int .i64 n1) (by dsimp only; omega)).other (a := ⟨w.heap.size + 1 + 1 + 1, 2, none⟩) (.int .i64 n2) (by dsimp only; omega))
  have HS7 := hid (((HS6.out.other (a := ⟨w.heap.size + 1 + 1 + 1, 0, none⟩) (.int .i64 n0) (by dsimp only; omega)).other (a := ⟨w.heap.size + 1 + 1 + 1, 1, none⟩) (.int .i64 n1) (by dsimp only; omega)).other (a := ⟨w.heap.size + 1 + 1 + 1, 2, none⟩) (.int .i64 n2) (by dsimp only; omega))
  have HE7 := hid (((HE6.out.other (a := ⟨w.heap.size + 1 + 1 + 1, 0, none⟩) (.int .i64 n0) (by dsimp only; omega)).other (a := ⟨w.heap.size + 1 + 1 + 1, 1, none⟩) (.int .i64 n1) (by dsimp only; omega)).other (a := ⟨w.heap.size + 1 + 1 + 1, 2, none⟩) (.int .i64 n2) (by dsimp only; omega))
  have HB7 := hid (((HB6.out.setCell (p := ⟨w.heap.size + 1 + 1 + 1, 0, none⟩) (by dsimp only; omega) (.int .i64 n0)).setCell (p := ⟨w.heap.size + 1 + 1 + 1, 1, none⟩) (by dsimp only; omega) (.int .i64 n1)).setCell (p := ⟨w.heap.size + 1 + 1 + 1, 2, none⟩) (by dsimp only; omega) (.int .i64 n2))
  refine wpAnyH_ready (rs := [6]) (by kernel_rfl) (by simp) ?_
  refine AllReadyH.cons (by simp only [List.getElem?_toArray, List.getElem?_cons_zero, List.getElem?_cons_succ]; rfl) (fun K hK => ?_) AllReadyH.nil
  rw [if_pos (by rfl)]
  go_simp
  refine hK.out _ _ ⟨HV7.out.cell (k := 0) rfl, HS7.out⟩ (fun _ => ?_)
  clear hK K
  clear y0 y1 y2 z0 z1 z2 HV6 HS6 HT6 HE6 HB6
  generalize ((w6.setCell ⟨w.heap.size + 1 + 1 + 1, 0, none⟩ (.int .i64 n0)).setCell ⟨w.heap.size + 1 + 1 + 1, 1, none⟩ (.int .i64 n1)).setCell ⟨w.heap.size + 1 + 1 + 1, 2, none⟩ (.int .i64 n2) = w7 at *
  have y0 := HE7.out.cell (k := 0) rfl
  have z0 := HE7.out.frozen 0
  have HE8 := hid (HE7.out.set 0 (.int .i64 0))
  have HV8 := hid (HV7.out.other (a := ⟨w.heap.size + 1 + 1 + 1 + 1, 0, none⟩) (.int .i64 0) (by dsimp only; omega))
  have HT8 := hid (HT7.out.other (a := ⟨w.heap.size + 1 + 1 + 1 + 1, 0, none⟩) (.int .i64 0) (by dsimp only; omega))
  have HS8 := hid (HS7.out.other (a := ⟨w.heap.size + 1 + 1 + 1 + 1, 0, none⟩) (.int .i64 0) (by dsimp only; omega))
  have HB8 := hid (HB7.out.setCell (p := ⟨w.heap.size + 1 + 1 + 1 + 1, 0, none⟩) (by dsimp only; omega) (.int .i64 0))
  refine wpAnyH_ready (rs := [7]) (by kernel_rfl) (by simp) ?_
  refine AllReadyH.cons (by simp only [List.getElem?_toArray, List.getElem?_cons_zero, List.getElem?_cons_succ]; rfl) (fun K hK => ?_) AllReadyH.nil
  rw [if_pos (by rfl)]
  go_simp
  refine hK.out _ _ ⟨HV8.out.cell (k := 0) rfl, HS8.out⟩ (fun _ => ?_)
  clear hK K
  refine wpAnyH_done (by kernel_rfl) ?_ _
  refine NoPanic.normal ?_
  clear y0 z0 HV7 HS7 HT7 HE7 HB7
  generalize w7.setCell ⟨w.heap.size + 1 + 1 + 1 + 1, 0, none⟩ (.int .i64 0) = w8 at *
  have p0 := HV8.out.cell (k := 0) rfl
  have p1 := HT8.out.cell (k := 0) rfl
  have p2 := HT8.out.cell (k := 1) rfl
  have p3 := HT8.out.cell (k := 2) rfl
  have p4 := HE8.out.cell (k := 0) rfl
  go_wp2_with fail
  refine leaves_cons (f := 61) (args := #[.pointer (some ⟨w.heap.size + 1 + 1 + 1 + 1, 0, none⟩), .func (.func 62) #[] #[.pointer (some ⟨w.heap.size + 1 + 1, 0, none⟩), .pointer (some ⟨w.heap.size + 1 + 1 + 1, 0, none⟩)]]) (by simp) (by simp [go_sem]) ?_
  refine (rpcaught_idle ⟨w.heap.size + 1 + 1 + 1 + 1, 0, none⟩ _ _).mono ?_
  rintro e u' w'' ⟨rfl, rfl, rfl⟩
  refine ⟨_, ?_, rfl, HB8.out⟩
  simp [results, Tryz.results31, go_sem, p0, p1, p2, p3, p4, nxtV]
end Go.Proofs.YtolmmfbgljgdcaaGreat
