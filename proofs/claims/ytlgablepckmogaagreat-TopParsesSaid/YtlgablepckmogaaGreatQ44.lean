/-
  The walks of layer 26 (exec), first part: the rules, must, caught; a plan that breaks no rule is checked.
-/
import Derived.Test.YtlgablepckmogaaGreatQ42
import Derived.Test.YtlgablepckmogaaGreatQ43
import Derived.Recover
import Derived.Defers
import Derived.Laws.EntriesVeiled
namespace Go.Port
open Go.RowKit
/-- A sequence under check: itself, its number, the window, what lies behind, the literals left, the most, what came. -/
structure XSt where
  s : Sq
  num : Int
  size : Int
  hav : Int
  lits : Int
  most : Int
  total : Int
def xkc (x : XSt) : List Value := [.int .i64 x.s.lit, .int .i64 x.s.len, .int .i64 x.s.off, .int .i64 x.num, .int .i64 x.size, .int .i64 x.hav, .int .i64 x.lits, .int .i64 x.most, .int .i64 x.total]
def xkv (x : XSt) : Value := .agg #[.int .i64 x.s.lit, .int .i64 x.s.len, .int .i64 x.s.off, .int .i64 x.num, .int .i64 x.size, .int .i64 x.hav, .int .i64 x.lits, .int .i64 x.most, .int .i64 x.total]
structure XIn (x : XSt) : Prop where
  lit : 0 ≤ x.s.lit
  lits : x.s.lit ≤ x.lits
  len : 3 ≤ x.s.len
  max : x.s.len ≤ 131072
  off : 1 ≤ x.s.off
  size : x.s.off ≤ x.size
  far : x.s.off - x.hav - x.total ≤ x.s.lit
  h0 : 0 ≤ x.hav
  h1 : x.hav ≤ 134217728
  t0 : 0 ≤ x.total
  t1 : x.total ≤ 131072
  o1 : x.s.off ≤ 134217728
  l1 : x.lits ≤ 1000000
structure XFit (x : XSt) : Prop where
  most : x.most = 131072
  fit : x.total + x.s.lit + x.s.len ≤ 131072
  t0 : 0 ≤ x.total
  lit : 0 ≤ x.s.lit
  len : 3 ≤ x.s.len
end Go.Port
namespace Go.Proofs.YtlgablepckmogaaGreat
open Go.RowKit Go.Port
set_option maxRecDepth 100000 in
theorem xrule1_any (x : XSt) (w : World) (h : XIn x) :
    Calls Tryz.prog 123 #[xkv x] w (RetV w (.int .i64 0)) := by
  have hB := below_new w (.cells (xkc x).toArray 177)
  have hX := Blk.new w (xkc x) 177
  obtain ⟨⟨lit, len, off⟩, num, size, hav, lits, most, total⟩ := x
  obtain ⟨h1, h2, h3, h4, h5, h6, h7, h8, h9, h10, h11, h12, _⟩ := h
  unfold xkv
  unfold xkc at hB hX
  dsimp only at *
  have hw1 : IntKind.i64.wrap (off - hav) = off - hav := by rw [IntKind.wrap_i64]; omega
  have hw2 : IntKind.i64.wrap (off - hav - total) = off - hav - total := by rw [IntKind.wrap_i64]; omega
  have d1 : decide (0 ≤ lit) = true := decide_eq_true h1
  have d2 : decide (lit ≤ lits) = true := decide_eq_true h2
  have d3 : decide (3 ≤ len) = true := decide_eq_true h3
  have d4 : decide (len ≤ 131072) = true := decide_eq_true h4
  have n5 : ¬ off < 1 := by omega
  have n6 : ¬ size < off := by omega
  have n7 : ¬ lit < off - hav - total := by omega
  have c0 := hX.cell (k := 0) rfl
  have c1 := hX.cell (k := 1) rfl
  have c2 := hX.cell (k := 2) rfl
  have c3 := hX.cell (k := 3) rfl
  have c4 := hX.cell (k := 4) rfl
  have c5 := hX.cell (k := 5) rfl
  have c6 := hX.cell (k := 6) rfl
  have c7 := hX.cell (k := 7) rfl
  have c8 := hX.cell (k := 8) rfl
  have HB := hid hB
  clear hX hB h7 h8 h9 h10 h11 h12
  go_enter Tryz.func123, Tryz.ntmps123
  go_wp2
  go_ret
  exact ⟨rfl, HB.out⟩
set_option maxRecDepth 100000 in
theorem xrule2_any (x : XSt) (w : World) (h : XFit x) :
    Calls Tryz.prog 124 #[xkv x] w (RetV w (.int .i64 0)) := by
  have hB := below_new w (.cells (xkc x).toArray 177)
  have hX := Blk.new w (xkc x) 177
  obtain ⟨⟨lit, len, off⟩, num, size, hav, lits, most, total⟩ := x
  obtain ⟨h1, h2, h3, h4, h5⟩ := h
  unfold xkv
  unfold xkc at hB hX
  dsimp only at *
  have hw1 : IntKind.i64.wrap (most - total) = most - total := by rw [IntKind.wrap_i64]; omega
  have hw2 : IntKind.i64.wrap (most - total - lit) = most - total - lit := by rw [IntKind.wrap_i64]; omega
  have n5 : ¬ most - total < lit := by omega
  have n6 : ¬ most - total - lit < len := by omega
  have c0 := hX.cell (k := 0) rfl
  have c1 := hX.cell (k := 1) rfl
  have c7 := hX.cell (k := 7) rfl
  have c8 := hX.cell (k := 8) rfl
  have HB := hid hB
  clear hX hB h1 h2 h3 h4 h5
  go_enter Tryz.func124, Tryz.ntmps124
  go_wp2
  go_ret
  exact ⟨rfl, HB.out⟩
theorem xrules_any (w : World) :
    Calls Tryz.prog 93 #[] w (RetV w (.agg #[.func (.func 123) #[] #[], .func (.func 124) #[] #[]])) := by
  go_enter Tryz.func93, Tryz.ntmps93
  go_wp2
  refine bodyPost_ret (v := .agg #[.func (.func 123) #[] #[], .func (.func 124) #[] #[]]) (by simp [results, Tryz.results93, go_sem]) rfl ⟨rfl, ?_⟩
  exact below_new w _
theorem xmust_any (k : Int) (w : World) :
    Calls Tryz.prog 94 #[.int .i64 k, .int .i64 0] w (RetV w (.tuple #[])) := by
  go_enter Tryz.func94, Tryz.ntmps94
  go_wp2
  go_end0
  exact ⟨rfl, Below.refl _ _⟩
theorem xiface_nil (w : World) : (binOp BinOp.eql 20 .nilIface .nilIface).run Tryz.prog w = .ok (.bool true) w := by kernel_rfl
set_option maxRecDepth 100000 in
set_option maxHeartbeats 400000 in
theorem xcaught_idle (p q r : Addr) (w : World) :
    CallsD Tryz.prog 92 #[.pointer (some p), .pointer (some q), .pointer (some r)] .returning w fun e u' w' => e = .returned (.tuple #[]) ∧ u' = .returning ∧ w' = w := by
  have hnil := xiface_nil
  refine callsD_of_wpS Tryz.func92 rfl fun c₀ cs hu => ?_
  simp only [Tryz.ntmps92, List.size_toArray, List.length_cons, List.length_nil, Nat.reduceAdd, Nat.reduceSub, Array.replicate_succ,
     Array.replicate_zero, List.push_toArray, List.append_toArray, List.nil_append, List.cons_append]
  apply wpS_seq
  apply wpS_region
  generalize hQ : (Exit.thenS _ _ : Exit → Act → List Frame → World → Prop) = Q
  simp [wpOpsS, go_sem, recoverD, hu]
  subst hQ
  dsimp only [Exit.thenS]
  refine wpS_of_wp ?_
  go_wp2
  exact ⟨rfl, .returning, by cases c₀; simp_all, .tuple #[], results_none rfl _ _ _, rfl, rfl, rfl⟩
end Go.Proofs.YtlgablepckmogaaGreat
