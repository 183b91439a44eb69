/-
  The walks of layer 22 (plan): the steps of a plan that breaks a rule.
-/
import Derived.Test.YtiagbejfghincaaGreatX15
namespace Go.Port
open Go.RowKit
/-- The sequence lies within the greatest block, from a on. -/
def linB (s : Sq) (a : Int) : Bool := decide (0 ≤ s.lit) && decide (3 ≤ s.len) && decide (s.lit ≤ 131072 - a) && decide (s.len ≤ 131072 - (a + s.lit))
/-- Where a plan ends, if it is one. -/
def planEnd : Int → List Sq → Option Int
  | a, [] => some a
  | a, s :: r => if linB s a = true then planEnd (a + s.lit + s.len) r else none
theorem linB_in {s : Sq} {a : Int} (h : linB s a = true) : 0 ≤ s.lit ∧ 3 ≤ s.len ∧ a + s.lit + s.len ≤ 131072 := by
  unfold linB at h
  simp only [Bool.and_eq_true, decide_eq_true_eq] at h
  omega
theorem planEnd_some : ∀ (l : List Sq) (a n : Int), planEnd a l = some n → n = lend a l ∧ a ≤ n ∧ (l ≠ [] → n ≤ 131072) := by
  intro l
  induction l with
  | nil => intro a n h; simp only [planEnd, Option.some.injEq] at h; exact ⟨h.symm, by omega, fun h => absurd rfl h⟩
  | cons s r ih =>
    intro a n h
    unfold planEnd at h
    split at h
    · rename_i hb
      have h1 := linB_in hb
      obtain ⟨h2, h3, h4⟩ := ih _ _ h
      refine ⟨h2, by omega, fun _ => ?_⟩
      by_cases hr : r = []
      · subst hr
        simp only [planEnd, Option.some.injEq] at h
        omega
      · exact h4 hr
    · cases h
theorem lpl_of : ∀ (l : List Sq) (a n : Int), 0 ≤ a → planEnd a l = some n → ∀ pre s rest, l = pre ++ s :: rest → linB s (lend a pre) = true ∧ 0 ≤ lend a pre := by
  intro l
  induction l with
  | nil => intro a n _ _ pre s rest e; cases pre <;> cases e
  | cons x r ih =>
    intro a n ha h pre s rest e
    unfold planEnd at h
    split at h
    · rename_i hb
      have h1 := linB_in hb
      cases pre with
      | nil => cases e; exact ⟨hb, ha⟩
      | cons y pre =>
        cases e
        exact ih _ n (by omega) h pre s rest rfl
    · cases h
theorem LPl.of {l : List Sq} {n : Int} (h : planEnd 0 l = some n) : LPl l := fun pre s rest e => by
  obtain ⟨h1, h2⟩ := lpl_of l 0 n (Int.le_refl _) h pre s rest e
  obtain ⟨h3, h4, h5⟩ := linB_in h1
  exact ⟨h2, h3, h4, h5, Int.le_refl _⟩
theorem planEnd_none : ∀ (l : List Sq) (a : Int), 0 ≤ a → planEnd a l = none → ∃ pre s rest, l = pre ++ s :: rest ∧ planEnd a pre = some (lend a pre) ∧ linB s (lend a pre) = false := by
  intro l
  induction l with
  | nil => intro a _ h; cases h
  | cons x r ih =>
    intro a ha h
    unfold planEnd at h
    split at h
    · rename_i hb
      have h1 := linB_in hb
      obtain ⟨pre, s, rest, e, h2, h3⟩ := ih _ (by omega) h
      refine ⟨x :: pre, s, rest, by rw [e]; rfl, ?_, h3⟩
      unfold planEnd
      rw [if_pos hb]
      exact h2
    · rename_i hb
      exact ⟨[], x, r, rfl, rfl, by simpa [lend] using hb⟩
end Go.Port
namespace Go.Proofs.YtiagbejfghincaaGreat
open Go.RowKit Go.Port
set_option maxRecDepth 100000 in
theorem lrule1_no0 (x : LSt) (hsz : x.size = 131072 ∧ x.hav = 0 ∧ x.win = 0) (w : World) (ha : 0 ≤ x.at' ∧ x.at' ≤ 131072) (hx : ¬ 0 ≤ x.s.lit) :
    Calls Tryz.prog 174 #[lstv x] w (RetV w (.bool false)) := by
  have hB := below_new w (.cells (lstc x).toArray 176)
  have hX := Blk.new w (lstc x) 176
  obtain ⟨⟨lit, len, off⟩, num, at', size, hav, win⟩ := x
  obtain ⟨e1, e2, e3⟩ := hsz
  dsimp only at e1 e2 e3
  subst e1 e2 e3
  unfold lstv
  unfold lstc at hB hX
  dsimp only at *
  have d1 : decide (0 ≤ lit) = false := decide_eq_false hx
  have HB := hid hB
  have hlt := hX.lt
  have c0 := hX.cell (k := 0) rfl
  have c1 := hX.cell (k := 1) rfl
  have c2 := hX.cell (k := 2) rfl
  have c3 := hX.cell (k := 3) rfl
  have c4 := hX.cell (k := 4) rfl
  have c5 := hX.cell (k := 5) rfl
  have c6 := hX.cell (k := 6) rfl
  have c7 := hX.cell (k := 7) rfl
  clear hx ha hB hX
  go_enter Tryz.func174, Tryz.ntmps174
  go_wp2_with fail
  generalize hg : w.alloc (.cells #[.int .i64 lit, .int .i64 len, .int .i64 off, .int .i64 num, .int .i64 at', .int .i64 131072, .int .i64 0, .int .i64 0] 176) = w1 at *
  clear hg
  have e0 := fun V : LowOf w1.heap.size w1 => V.cell c0 hlt
  have e1 := fun V : LowOf w1.heap.size w1 => V.cell c1 hlt
  have e2 := fun V : LowOf w1.heap.size w1 => V.cell c2 hlt
  have e3 := fun V : LowOf w1.heap.size w1 => V.cell c3 hlt
  have e4 := fun V : LowOf w1.heap.size w1 => V.cell c4 hlt
  have e5 := fun V : LowOf w1.heap.size w1 => V.cell c5 hlt
  have e6 := fun V : LowOf w1.heap.size w1 => V.cell c6 hlt
  have e7 := fun V : LowOf w1.heap.size w1 => V.cell c7 hlt
  clear c0 c1 c2 c3 c4 c5 c6 c7
  refine wp_region_low w1.heap.size (by kernel_rfl) (by kernel_rfl) ?_
  repeat (go_big_quiet_step (fail))
  refine wpQuiet_nil ?_
  rintro _ ⟨V, rfl⟩
  have hbV := HB.out.trans (V.below.mono HB.out.size)
  go_wp2
  go_ret
  exact ⟨rfl, hbV⟩
set_option maxRecDepth 100000 in
theorem lrule1_no1 (x : LSt) (hsz : x.size = 131072 ∧ x.hav = 0 ∧ x.win = 0) (w : World) (ha : 0 ≤ x.at' ∧ x.at' ≤ 131072) (hx : (0 ≤ x.s.lit) ∧ ¬ 3 ≤ x.s.len) :
    Calls Tryz.prog 174 #[lstv x] w (RetV w (.bool false)) := by
  have hB := below_new w (.cells (lstc x).toArray 176)
  have hX := Blk.new w (lstc x) 176
  obtain ⟨⟨lit, len, off⟩, num, at', size, hav, win⟩ := x
  obtain ⟨e1, e2, e3⟩ := hsz
  dsimp only at e1 e2 e3
  subst e1 e2 e3
  unfold lstv
  unfold lstc at hB hX
  dsimp only at *
  have d1 : decide (0 ≤ lit) = true := decide_eq_true hx.1
  have d2 : decide (3 ≤ len) = false := decide_eq_false hx.2
  have HB := hid hB
  have hlt := hX.lt
  have c0 := hX.cell (k := 0) rfl
  have c1 := hX.cell (k := 1) rfl
  have c2 := hX.cell (k := 2) rfl
  have c3 := hX.cell (k := 3) rfl
  have c4 := hX.cell (k := 4) rfl
  have c5 := hX.cell (k := 5) rfl
  have c6 := hX.cell (k := 6) rfl
  have c7 := hX.cell (k := 7) rfl
  clear hx ha hB hX
  go_enter Tryz.func174, Tryz.ntmps174
  go_wp2_with fail
  generalize hg : w.alloc (.cells #[.int .i64 lit, .int .i64 len, .int .i64 off, .int .i64 num, .int .i64 at', .int .i64 131072, .int .i64 0, .int .i64 0] 176) = w1 at *
  clear hg
  have e0 := fun V : LowOf w1.heap.size w1 => V.cell c0 hlt
  have e1 := fun V : LowOf w1.heap.size w1 => V.cell c1 hlt
  have e2 := fun V : LowOf w1.heap.size w1 => V.cell c2 hlt
  have e3 := fun V : LowOf w1.heap.size w1 => V.cell c3 hlt
  have e4 := fun V : LowOf w1.heap.size w1 => V.cell c4 hlt
  have e5 := fun V : LowOf w1.heap.size w1 => V.cell c5 hlt
  have e6 := fun V : LowOf w1.heap.size w1 => V.cell c6 hlt
  have e7 := fun V : LowOf w1.heap.size w1 => V.cell c7 hlt
  clear c0 c1 c2 c3 c4 c5 c6 c7
  refine wp_region_low w1.heap.size (by kernel_rfl) (by kernel_rfl) ?_
  repeat (go_big_quiet_step (fail))
  refine wpQuiet_nil ?_
  rintro _ ⟨V, rfl⟩
  have hbV := HB.out.trans (V.below.mono HB.out.size)
  go_wp2
  go_ret
  exact ⟨rfl, hbV⟩
set_option maxRecDepth 100000 in
theorem lrule1_no2 (x : LSt) (hsz : x.size = 131072 ∧ x.hav = 0 ∧ x.win = 0) (w : World) (ha : 0 ≤ x.at' ∧ x.at' ≤ 131072) (hx : (0 ≤ x.s.lit ∧ 3 ≤ x.s.len) ∧ ¬ x.s.lit ≤ 131072 - x.at') :
    Calls Tryz.prog 174 #[lstv x] w (RetV w (.bool false)) := by
  have hB := below_new w (.cells (lstc x).toArray 176)
  have hX := Blk.new w (lstc x) 176
  obtain ⟨⟨lit, len, off⟩, num, at', size, hav, win⟩ := x
  obtain ⟨e1, e2, e3⟩ := hsz
  dsimp only at e1 e2 e3
  subst e1 e2 e3
  unfold lstv
  unfold lstc at hB hX
  dsimp only at *
  have hw1 : IntKind.i64.wrap (131072 - at') = 131072 - at' := by rw [IntKind.wrap_i64]; omega
  have d1 : decide (0 ≤ lit) = true := decide_eq_true hx.1.1
  have d2 : decide (3 ≤ len) = true := decide_eq_true hx.1.2
  have d3 : decide (lit ≤ 131072 - at') = false := decide_eq_false hx.2
  have HB := hid hB
  have hlt := hX.lt
  have c0 := hX.cell (k := 0) rfl
  have c1 := hX.cell (k := 1) rfl
  have c2 := hX.cell (k := 2) rfl
  have c3 := hX.cell (k := 3) rfl
  have c4 := hX.cell (k := 4) rfl
  have c5 := hX.cell (k := 5) rfl
  have c6 := hX.cell (k := 6) rfl
  have c7 := hX.cell (k := 7) rfl
  clear hx ha hB hX
  go_enter Tryz.func174, Tryz.ntmps174
  go_wp2_with fail
  generalize hg : w.alloc (.cells #[.int .i64 lit, .int .i64 len, .int .i64 off, .int .i64 num, .int .i64 at', .int .i64 131072, .int .i64 0, .int .i64 0] 176) = w1 at *
  clear hg
  have e0 := fun V : LowOf w1.heap.size w1 => V.cell c0 hlt
  have e1 := fun V : LowOf w1.heap.size w1 => V.cell c1 hlt
  have e2 := fun V : LowOf w1.heap.size w1 => V.cell c2 hlt
  have e3 := fun V : LowOf w1.heap.size w1 => V.cell c3 hlt
  have e4 := fun V : LowOf w1.heap.size w1 => V.cell c4 hlt
  have e5 := fun V : LowOf w1.heap.size w1 => V.cell c5 hlt
  have e6 := fun V : LowOf w1.heap.size w1 => V.cell c6 hlt
  have e7 := fun V : LowOf w1.heap.size w1 => V.cell c7 hlt
  clear c0 c1 c2 c3 c4 c5 c6 c7
  refine wp_region_low w1.heap.size (by kernel_rfl) (by kernel_rfl) ?_
  repeat (go_big_quiet_step (fail))
  refine wpQuiet_nil ?_
  rintro _ ⟨V, rfl⟩
  have hbV := HB.out.trans (V.below.mono HB.out.size)
  go_wp2
  go_ret
  exact ⟨rfl, hbV⟩
set_option maxRecDepth 100000 in
theorem lmatch2_any (x : LSt) (w : World) (ha : 0 ≤ x.at' ∧ x.at' ≤ 131072) (hx : 0 ≤ x.s.lit ∧ x.s.lit ≤ 131072) :
    Calls Tryz.prog 111 #[lstv x] w (RetV w (.int .i64 (x.at' + x.s.lit))) := by
  obtain ⟨⟨lit, len, off⟩, num, at', size, hav, win⟩ := x
  unfold lstv
  dsimp only at *
  have hw1 : IntKind.i64.wrap (at' + lit) = at' + lit := by rw [IntKind.wrap_i64]; omega
  clear ha hx
  go_enter Tryz.func111, Tryz.ntmps111
  go_wp2
  go_ret
  exact ⟨rfl, below_new w _⟩
set_option maxRecDepth 100000 in
theorem lrule1_no3 (x : LSt) (hsz : x.size = 131072 ∧ x.hav = 0 ∧ x.win = 0) (w : World) (ha : 0 ≤ x.at' ∧ x.at' ≤ 131072) (hx : (0 ≤ x.s.lit ∧ 3 ≤ x.s.len ∧ x.s.lit ≤ 131072 - x.at') ∧ ¬ x.s.len ≤ 131072 - (x.at' + x.s.lit)) :
    Calls Tryz.prog 174 #[lstv x] w (RetV w (.bool false)) := by
  have hB := below_new w (.cells (lstc x).toArray 176)
  have hX := Blk.new w (lstc x) 176
  have HM := hid (fun W' => lmatch2_any x W' ha (by omega))
  obtain ⟨⟨lit, len, off⟩, num, at', size, hav, win⟩ := x
  obtain ⟨e1, e2, e3⟩ := hsz
  dsimp only at e1 e2 e3
  subst e1 e2 e3
  unfold lstv at HM ⊢
  unfold lstc at hB hX
  dsimp only at *
  have hw1 : IntKind.i64.wrap (131072 - at') = 131072 - at' := by rw [IntKind.wrap_i64]; omega
  have hw2 : IntKind.i64.wrap (131072 - (at' + lit)) = 131072 - (at' + lit) := by rw [IntKind.wrap_i64]; omega
  have d1 : decide (0 ≤ lit) = true := decide_eq_true hx.1.1
  have d2 : decide (3 ≤ len) = true := decide_eq_true hx.1.2.1
  have d3 : decide (lit ≤ 131072 - at') = true := decide_eq_true hx.1.2.2
  have d4 : decide (len ≤ 131072 - (at' + lit)) = false := decide_eq_false hx.2
  have HB := hid hB
  have hlt := hX.lt
  have c0 := hX.cell (k := 0) rfl
  have c1 := hX.cell (k := 1) rfl
  have c2 := hX.cell (k := 2) rfl
  have c3 := hX.cell (k := 3) rfl
  have c4 := hX.cell (k := 4) rfl
  have c5 := hX.cell (k := 5) rfl
  have c6 := hX.cell (k := 6) rfl
  have c7 := hX.cell (k := 7) rfl
  clear hx ha hB hX
  go_enter Tryz.func174, Tryz.ntmps174
  go_wp2_with fail
  generalize hg : w.alloc (.cells #[.int .i64 lit, .int .i64 len, .int .i64 off, .int .i64 num, .int .i64 at', .int .i64 131072, .int .i64 0, .int .i64 0] 176) = w1 at *
  clear hg
  have e0 := fun V : LowOf w1.heap.size w1 => V.cell c0 hlt
  have e1 := fun V : LowOf w1.heap.size w1 => V.cell c1 hlt
  have e2 := fun V : LowOf w1.heap.size w1 => V.cell c2 hlt
  have e3 := fun V : LowOf w1.heap.size w1 => V.cell c3 hlt
  have e4 := fun V : LowOf w1.heap.size w1 => V.cell c4 hlt
  have e5 := fun V : LowOf w1.heap.size w1 => V.cell c5 hlt
  have e6 := fun V : LowOf w1.heap.size w1 => V.cell c6 hlt
  have e7 := fun V : LowOf w1.heap.size w1 => V.cell c7 hlt
  have HMV := hid (fun V : LowOf w1.heap.size w1 => Calls.low_of V (Nat.le_refl _) (HM.out V.W))
  clear c0 c1 c2 c3 c4 c5 c6 c7
  refine wp_region_low w1.heap.size (by kernel_rfl) (by kernel_rfl) ?_
  repeat (go_big_quiet_step (with_reducible exact HMV.out _))
  refine wpQuiet_nil ?_
  rintro _ ⟨V, rfl⟩
  have hbV := HB.out.trans (V.below.mono HB.out.size)
  go_wp2
  go_ret
  exact ⟨rfl, hbV⟩
theorem lrule1_no (x : LSt) (hsz : x.size = 131072 ∧ x.hav = 0 ∧ x.win = 0) (w : World) (ha : 0 ≤ x.at' ∧ x.at' ≤ 131072) (hx : linB x.s x.at' = false) :
    Calls Tryz.prog 174 #[lstv x] w (RetV w (.bool false)) := by
  unfold linB at hx
  simp only [Bool.and_eq_false_iff, decide_eq_false_iff_not] at hx
  by_cases h1 : 0 ≤ x.s.lit
  · by_cases h2 : 3 ≤ x.s.len
    · by_cases h3 : x.s.lit ≤ 131072 - x.at'
      · exact lrule1_no3 x hsz w ha ⟨⟨h1, h2, h3⟩, by omega⟩
      · exact lrule1_no2 x hsz w ha ⟨⟨h1, h2⟩, h3⟩
    · exact lrule1_no1 x hsz w ha ⟨h1, h2⟩
  · exact lrule1_no0 x hsz w ha h1
theorem lmust_bad (x : LSt) (w : World) :
    Calls Tryz.prog 158 #[lstv x, .bool false] w fun e w' => e = .panicked [{ v := .iface 215 (.int .i64 x.num), recovered := false }] ∧ Below w.heap.size w w' := by
  obtain ⟨⟨lit, len, off⟩, num, at', size, hav, win⟩ := x
  have HX := hid (Blk.new w [.int .i64 lit, .int .i64 len, .int .i64 off, .int .i64 num, .int .i64 at', .int .i64 size, .int .i64 hav, .int .i64 win] 176)
  have HB := hid (below_new w (.cells #[.int .i64 lit, .int .i64 len, .int .i64 off, .int .i64 num, .int .i64 at', .int .i64 size, .int .i64 hav, .int .i64 win] 176))
  have c3 := HX.out.cell (k := 3) rfl
  unfold lstv
  go_enter Tryz.func158, Tryz.ntmps158
  go_wp2
  exact ⟨rfl, rfl, HB.out⟩
theorem liface_wrong (n : Int) (w : World) : (binOp BinOp.eql 20 (.iface 215 (.int .i64 n)) .nilIface).run Tryz.prog w = .ok (.bool false) w := by kernel_rfl
theorem liface_isw (n : Int) (w : World) : (Instr.typeAssert (.iface 215 (.int .i64 n)) 20 215 true).run Tryz.prog w = .ok (.tuple #[.int .i64 n, .bool true]) w := by kernel_rfl
set_option maxRecDepth 100000 in
set_option maxHeartbeats 400000 in
theorem lcaught_err (p q : Addr) (n x y : Int) (w : World) (hp : w.cell? p = some (.int .i64 x)) (hpz : w.frozen? p = false) (hq : (w.setCell p (.int .i64 n)).cell? q = some (.int .i64 y)) (hqz : (w.setCell p (.int .i64 n)).frozen? q = false) :
    CallsD Tryz.prog 136 #[.pointer (some p), .pointer (some q)] (.panicking [{ v := .iface 215 (.int .i64 n), recovered := false }]) w fun e u' w' =>
      e = .returned (.tuple #[]) ∧ u' = .panicking [{ v := .iface 215 (.int .i64 n), recovered := true }] ∧ w' = (w.setCell p (.int .i64 n)).setCell q (.int .i64 15) := by
  have herr := liface_wrong n
  have hta := liface_isw n
  refine callsD_of_wpS Tryz.func136 rfl fun c₀ cs hu => ?_
  simp only [Tryz.ntmps136, List.size_toArray, List.length_cons, List.length_nil, Nat.reduceAdd, Nat.reduceSub, Array.replicate_succ,
     Array.replicate_zero, List.push_toArray, List.append_toArray, List.nil_append, List.cons_append]
  apply wpS_seq
  apply wpS_region
  generalize hQ : (Exit.thenS _ _ : Exit → Act → List Frame → World → Prop) = Q
  simp [wpOpsS, go_sem, recoverD, hu]
  subst hQ
  dsimp only [Exit.thenS]
  refine wpS_of_wp ?_
  go_wp2_with fail
  exact ⟨rfl, _, by cases c₀; simp_all, .tuple #[], results_none rfl _ _ _, rfl, rfl, rfl⟩
/-- It panics with this chain; what lay stays. -/
def PanQ (ch : List PanicEntry) (w : World) : Exit → Act → World → Prop
  | .panic c, a, w' => c = ch ∧ a.defers = [] ∧ Below w.heap.size w w'
  | _, _, _ => False
theorem PanQ.put {ch c : List PanicEntry} {w w' : World} {a : Act} {d : Option Tmp} {v : Value} (h : PanQ ch w (.panic c) (a.put d v) w') : PanQ ch w (.panic c) a w' := by
  cases d <;> exact h
set_option maxRecDepth 100000 in
set_option maxHeartbeats 4000000 in
theorem lgoneS_bad (l lp : List Sq) (sb : Sq) (lr : List Sq) (hlb : l = lp ++ sb :: lr) (hbad : linB sb (lend 0 lp) = false) (hle0 : 0 ≤ lend 0 lp ∧ lend 0 lp ≤ 131072) (a : Option Addr) (c cb : Nat) (w0 w : World) (hl : l.length ≤ 900000) (hlc : l.length ≤ c) (hw : Below w0.heap.size w0 w) (hcb0 : w0.heap.size ≤ cb) (hcb : Blk w cb [.slice none 0 0] 171) (hc : Cs w0 a (l.flatMap lsqc)) (hv : LPl lp) :
    Calls Tryz.prog 137 #[.slice a l.length c, lstv ⟨Sq.zero, 0, 0, 131072, 0, 0⟩, .int .i64 1, .func (.func 138) #[] #[.pointer (some ⟨cb, 0, none⟩)]] w fun e w' => (∃ n : Int, e = .panicked [{ v := .iface 215 (.int .i64 n), recovered := false }]) ∧
      (∃ v n xs, Blk w' cb [v] 171 ∧ w'.ownsRow w.heap.size 176 8 v n xs) ∧ LKeep w.heap.size (some cb) w w' := by
  have HR := hid lrules_any
  have HX0 := hid (Blk.new w (lstc ⟨Sq.zero, 0, 0, 131072, 0, 0⟩) 176)
  have HB0 := hid (below_new w (.cells (lstc ⟨Sq.zero, 0, 0, 131072, 0, 0⟩).toArray 176))
  have HM1 := hid lrule1_any
  have HE := hid lend_any
  have HMu := hid lmust_any
  have HF := hid lstep1_any
  have HC := hid hc
  have HV := hid hv
  have HL := hid hl
  have HW := hid hw
  have HD0 := hid hcb
  have hcl := hcb.lt
  unfold lstc Sq.zero at HX0 HB0
  unfold lstv at HM1 HE HMu HF ⊢
  unfold Sq.zero
  dsimp only at HX0 HB0 ⊢
  have HLB := hid hlb
  have HBad := hid hbad
  have HLe := hid hle0
  clear hc hv hl hw hcb hlb hbad hle0
  go_enter Tryz.func137, Tryz.ntmps137
  go_wp2_with fail
  refine (HR.out _).mono ?_
  rintro e w1 ⟨rfl, hb1⟩
  have HX1 := hid (HX0.out.below hb1 HX0.out.lt)
  have HB1 := hid (HB0.out.trans (hb1.mono HB0.out.size))
  clear hb1 HX0 HB0
  go_wp2_with fail
  have hbn := below_new w1 (.cells #[.func (.func 174) #[] #[], .func (.func 175) #[] #[]] 218)
  have HX2 := hid (HX1.out.below hbn HX1.out.lt)
  have HB2 := hid (HB1.out.trans (hbn.mono HB1.out.size))
  have HA2 := hid (Blk.new w1 [.func (.func 174) #[] #[], .func (.func 175) #[] #[]] 218)
  have hA9 : w.heap.size < w1.heap.size := HX1.out.lt
  clear hbn HX1 HB1
  have hA2 := HA2.out.lt
  generalize w1.alloc (.cells #[.func (.func 174) #[] #[], .func (.func 175) #[] #[]] 218) = w2 at *
  generalize w1.heap.size = A9 at *
  have HD2 := hid (HD0.out.below HB2.out hcl)
  have hB2 : w.heap.size ≤ w2.heap.size := HB2.out.size
  clear HD0
  go_loopg [10] l.length (fun g t wr => ∃ (pre rest : List Sq) (a' : Option Addr) (c' : Nat) (s0 : Sq) (v : Value), Hid (l = pre ++ rest ∧ Cs w0 a' (rest.flatMap lsqc) ∧ rest.length ≤ c' ∧ ∃ lq, lp = pre ++ lq ∧ rest = lq ++ sb :: lr) ∧ rest.length = g ∧ t = .slice a' rest.length c' ∧ Blk wr w.heap.size (lstc ⟨s0, pre.length, lend 0 pre, 131072, 0, 0⟩) 176 ∧ Blk wr A9 [.func (.func 174) #[] #[], .func (.func 175) #[] #[]] 218 ∧ Blk wr cb [v] 171 ∧ wr.ownsRow w2.heap.size 176 8 v pre.length ((lsts 131072 0 0 pre).flatMap lstc) ∧ w2.heap.size ≤ wr.heap.size ∧ LKeep w.heap.size (some cb) w wr)
  case atStart => exact ⟨[], l, a, c, Sq.zero, _, hid ⟨rfl, HC.out, hlc, lp, rfl, HLB.out⟩, rfl, rfl, HX2.out, HA2.out, HD2.out, World.ownsRow_nil _ _ _ _, Nat.le_refl _, LKeep.of_below HB2.out⟩
  case round =>
    obtain ⟨pre, rest, a', c', s0, v, HI, hgl, rfl, hx, ha, hd, ho, hsz, hb⟩ := hrel
    have HGl := hid hgl
    clear hgl
    cases rest with
    | nil =>
      obtain ⟨lq, _, e⟩ := HI.out.2.2.2
      cases lq <;> cases e
    | cons s rest =>
      obtain ⟨lq, hlq1, hlq2⟩ := HI.out.2.2.2
      cases lq with
      | nil =>
        rw [List.append_nil] at hlq1
        obtain ⟨hsq, hrq⟩ : s = sb ∧ rest = lr := by cases hlq2; exact ⟨rfl, rfl⟩
        obtain ⟨lit, len, off⟩ := s
        have hcc := HI.out.2.1
        have hle := HI.out.2.2.1
        obtain ⟨bl, of', rfl, hbl, y0⟩ := hcc 0 (.int .i64 lit) rfl
        obtain ⟨_, _, e, _, y1⟩ := hcc 1 (.int .i64 len) rfl
        cases e
        obtain ⟨_, _, e, _, y2⟩ := hcc 2 (.int .i64 off) rfl
        cases e
        rw [Nat.add_zero] at y0
        have hb0 : Below w0.heap.size w0 wr := HW.out.trans (hb.below HW.out.size hcb0)
        replace y0 := (hb0.cell (p := ⟨bl, of', none⟩) hbl).trans y0
        replace y1 := (hb0.cell (p := ⟨bl, of' + 1, none⟩) hbl).trans y1
        replace y2 := (hb0.cell (p := ⟨bl, of' + 2, none⟩) hbl).trans y2
        have hL2 : l = (pre ++ [(⟨lit, len, off⟩ : Sq)]) ++ rest := by rw [HI.out.1, List.append_assoc]; rfl
        have hpl : pre.length + rest.length + 1 ≤ 900000 := by
          have h1 := HL.out
          rw [hL2] at h1
          simp only [List.length_append, List.length_cons, List.length_nil] at h1
          omega
        have HC2 := hid (show Cs w0 (some ⟨bl, of' + 3, none⟩) (rest.flatMap lsqc) from (fun j u hu => by
          obtain ⟨b2, o2, e1, e2, e3⟩ := hcc (3 + j) u (by
            show ([_, _, _] ++ rest.flatMap lsqc)[3 + j]? = some u
            rw [List.getElem?_append_right (by simp)]
            simpa using hu)
          simp only [Option.some.injEq, Addr.mk.injEq, and_true] at e1
          obtain ⟨rfl, rfl⟩ := e1
          exact ⟨bl, of' + 3, rfl, e2, by rw [Nat.add_assoc]; exact e3⟩))
        have HL2 := hid hL2
        have HPl := hid hpl
        have HX3 := hid (show Blk (((wr.setCell ⟨w.heap.size, 0, none⟩ (.int .i64 lit)).setCell ⟨w.heap.size, 1, none⟩ (.int .i64 len)).setCell ⟨w.heap.size, 2, none⟩ (.int .i64 off)) w.heap.size (lstc ⟨⟨lit, len, off⟩, pre.length, lend 0 pre, 131072, 0, 0⟩) 176 from lst_set w.heap.size 176 s0 ⟨lit, len, off⟩ _ _ _ _ _ wr hx)
        have hne : w.heap.size ≠ A9 := by omega
        have hne2 : w.heap.size ≠ cb := by omega
        have HNo := hid (fun (b : Nat) (hb : b < w2.heap.size) (W : World) (v : Value) (n : Nat) (xs : List Value) (h : W.ownsRow w2.heap.size 176 8 v n xs) => (fun e => by have := (h.lt _ e).1; omega : v.ownBlock ≠ some b))
        have hw2 : w.heap.size < w2.heap.size := by omega
        have HO3 := hid (ownsRow_other (ownsRow_other (ownsRow_other ho (a := ⟨w.heap.size, 0, none⟩) (HNo.out _ hw2 _ _ _ _ ho) (.int .i64 lit)) (a := ⟨w.heap.size, 1, none⟩) (HNo.out _ hw2 _ _ _ _ ho) (.int .i64 len)) (a := ⟨w.heap.size, 2, none⟩) (HNo.out _ hw2 _ _ _ _ ho) (.int .i64 off))
        have HA3 := hid (((ha.other (a := ⟨w.heap.size, 0, none⟩) (.int .i64 lit) hne).other (a := ⟨w.heap.size, 1, none⟩) (.int .i64 len) hne).other (a := ⟨w.heap.size, 2, none⟩) (.int .i64 off) hne)
        have HD3 := hid (((hd.other (a := ⟨w.heap.size, 0, none⟩) (.int .i64 lit) hne2).other (a := ⟨w.heap.size, 1, none⟩) (.int .i64 len) hne2).other (a := ⟨w.heap.size, 2, none⟩) (.int .i64 off) hne2)
        have HB3 := hid (((hb.set ⟨w.heap.size, 0, none⟩ (.int .i64 lit) (.inl (Nat.le_refl _))).set ⟨w.heap.size, 1, none⟩ (.int .i64 len) (.inl (Nat.le_refl _))).set ⟨w.heap.size, 2, none⟩ (.int .i64 off) (.inl (Nat.le_refl _)))
        have HS3 := hid (show w2.heap.size ≤ (((wr.setCell ⟨w.heap.size, 0, none⟩ (.int .i64 lit)).setCell ⟨w.heap.size, 1, none⟩ (.int .i64 len)).setCell ⟨w.heap.size, 2, none⟩ (.int .i64 off)).heap.size from by simpa using hsz)
        have c0 := hx.cell (k := 0) rfl
        have c1 := hx.cell (k := 1) rfl
        have c2 := hx.cell (k := 2) rfl
        have z0 := hx.frozen 0
        have z1 := hx.frozen 1
        have z2 := hx.frozen 2
        simp only [List.length_cons] at hle ⊢
        have hcI : ((rest.length : Int) + 1) ≤ (c' : Int) := by omega
        have hc1 : rest.length + 1 ≤ c' := hle
        have hlI : (0 : Int) < ((rest.length + 1 : Nat) : Int) := by omega
        have hlI2 : (1 : Int) ≤ ((rest.length + 1 : Nat) : Int) := by omega
        clear hcc hx ha hb hd ho hb0 hL2 hpl HI hle hsz
        go_wp2_with fail
        generalize ((wr.setCell ⟨w.heap.size, 0, none⟩ (.int .i64 lit)).setCell ⟨w.heap.size, 1, none⟩ (.int .i64 len)).setCell ⟨w.heap.size, 2, none⟩ (.int .i64 off) = w3 at *
        clear y0 y1 y2 c0 c1 c2 z0 z1 z2
        refine wp_loop_rounds 2 ?_
        rw [rounds_succ]
        have c0 := HX3.out.cell (k := 0) rfl
        have c1 := HX3.out.cell (k := 1) rfl
        have c2 := HX3.out.cell (k := 2) rfl
        have c3 := HX3.out.cell (k := 3) rfl
        have c4 := HX3.out.cell (k := 4) rfl
        have c5 := HX3.out.cell (k := 5) rfl
        have c6 := HX3.out.cell (k := 6) rfl
        have c7 := HX3.out.cell (k := 7) rfl
        have k0 := HA3.out.cell (k := 0) rfl
        dsimp only at c0 c1 c2 c3 c4 c5 c6 c7
        go_wp2_with fail
        have HR1 := hid (fun W => lrule1_no ⟨⟨lit, len, off⟩, pre.length, lend 0 pre, 131072, 0, 0⟩ ⟨rfl, rfl, rfl⟩ W (by rw [← hlq1]; exact HLe.out) (by rw [← hlq1, hsq]; exact HBad.out))
        have HMb := hid (fun W => lmust_bad ⟨⟨lit, len, off⟩, pre.length, lend 0 pre, 131072, 0, 0⟩ W)
        unfold lstv at HR1 HMb
        dsimp only at HR1 HMb
        clear k0
        refine Code.wp_mono (Q := PanQ [{ v := .iface 215 (.int .i64 (pre.length : Nat)), recovered := false }] w3) (fun e a' w' hq => ?_) ?_
        · cases e with
          | panic c =>
            obtain ⟨rfl, hd, hbl⟩ := hq
            refine ⟨hd, ⟨_, rfl⟩, ⟨v, _, _, HD3.out.below hbl HD3.out.lt, own_le (own_low HO3.out hbl) hB2⟩, HB3.out.trans ((LKeep.of_below hbl).mono (Nat.le_trans hB2 HS3.out))⟩
          | _ => exact hq.elim
        refine wp_region_held_drew (S := fun W' => Below w3.heap.size w3 W') (by kernel_rfl) (Below.refl _ _).drew (fun hHeld => ?_)
        refine wpAnyH_take (i := 0) (v := .agg #[.int .i64 lit, .int .i64 len, .int .i64 off, .int .i64 pre.length, .int .i64 (lend 0 pre), .int .i64 131072, .int .i64 0, .int .i64 0]) (by simp only [List.getElem?_toArray, List.getElem?_cons_zero]; rfl) (by kernel_rfl) (by kernel_rfl) (by kernel_rfl) (fun _ _ _ h => PanQ.put h) (Or.inl ⟨by rfl, fun W hSw => ?_⟩) (by assumption) ?_
        · have g0 := (hSw.cell (p := ⟨w.heap.size, 0, none⟩) HX3.out.lt).trans c0
          have g1 := (hSw.cell (p := ⟨w.heap.size, 1, none⟩) HX3.out.lt).trans c1
          have g2 := (hSw.cell (p := ⟨w.heap.size, 2, none⟩) HX3.out.lt).trans c2
          have g3 := (hSw.cell (p := ⟨w.heap.size, 3, none⟩) HX3.out.lt).trans c3
          have g4 := (hSw.cell (p := ⟨w.heap.size, 4, none⟩) HX3.out.lt).trans c4
          have g5 := (hSw.cell (p := ⟨w.heap.size, 5, none⟩) HX3.out.lt).trans c5
          have g6 := (hSw.cell (p := ⟨w.heap.size, 6, none⟩) HX3.out.lt).trans c6
          have g7 := (hSw.cell (p := ⟨w.heap.size, 7, none⟩) HX3.out.lt).trans c7
          go_simp
        simp only [Act.put, List.setIfInBounds_toArray, List.set_cons_zero, List.set_cons_succ]
        refine wpAnyH_take (i := 1) (v := .func (.func 174) #[] #[]) (by simp only [List.getElem?_toArray, List.getElem?_cons_zero, List.getElem?_cons_succ]; rfl) (by kernel_rfl) (by kernel_rfl) (by kernel_rfl) (fun _ _ _ h => PanQ.put h) (Or.inl ⟨by rfl, fun W hSw => ?_⟩) (by assumption) ?_
        · clear hSw
          go_simp
        simp only [Act.put, List.setIfInBounds_toArray, List.set_cons_zero, List.set_cons_succ]
        refine wpAnyH_take (i := 2) (v := .agg #[.int .i64 lit, .int .i64 len, .int .i64 off, .int .i64 pre.length, .int .i64 (lend 0 pre), .int .i64 131072, .int .i64 0, .int .i64 0]) (by simp only [List.getElem?_toArray, List.getElem?_cons_zero, List.getElem?_cons_succ]; rfl) (by kernel_rfl) (by kernel_rfl) (by kernel_rfl) (fun _ _ _ h => PanQ.put h) (Or.inl ⟨by rfl, fun W hSw => ?_⟩) (by assumption) ?_
        · have g0 := (hSw.cell (p := ⟨w.heap.size, 0, none⟩) HX3.out.lt).trans c0
          have g1 := (hSw.cell (p := ⟨w.heap.size, 1, none⟩) HX3.out.lt).trans c1
          have g2 := (hSw.cell (p := ⟨w.heap.size, 2, none⟩) HX3.out.lt).trans c2
          have g3 := (hSw.cell (p := ⟨w.heap.size, 3, none⟩) HX3.out.lt).trans c3
          have g4 := (hSw.cell (p := ⟨w.heap.size, 4, none⟩) HX3.out.lt).trans c4
          have g5 := (hSw.cell (p := ⟨w.heap.size, 5, none⟩) HX3.out.lt).trans c5
          have g6 := (hSw.cell (p := ⟨w.heap.size, 6, none⟩) HX3.out.lt).trans c6
          have g7 := (hSw.cell (p := ⟨w.heap.size, 7, none⟩) HX3.out.lt).trans c7
          go_simp
        simp only [Act.put, List.setIfInBounds_toArray, List.set_cons_zero, List.set_cons_succ]
        refine wpAnyH_ready (rs := [3]) (by kernel_rfl) (by simp) ?_
        refine AllReadyH.cons (by simp only [List.getElem?_toArray, List.getElem?_cons_zero, List.getElem?_cons_succ]; rfl) (fun K hK => ?_) AllReadyH.nil
        rw [if_pos (by rfl)]
        go_simp
        go_at_call 174
        refine (HR1.out _).mono ?_
        rintro e w4 ⟨rfl, hb4⟩
        have HB4 := hid ((show Below w3.heap.size w3 w3.drew from (Below.refl _ _).drew).trans hb4)
        dsimp only
        refine hK.out _ _ HB4.out (fun _ => ?_)
        clear hK K hb4
        refine wpAnyH_ready (rs := [4]) (by kernel_rfl) (by simp) ?_
        refine AllReadyH.cons (by simp only [List.getElem?_toArray, List.getElem?_cons_zero, List.getElem?_cons_succ]; rfl) (fun K hK => ?_) AllReadyH.nil
        rw [if_pos (by rfl)]
        go_simp
        go_at_call 158
        refine (HMb.out _).mono ?_
        rintro e w5 ⟨rfl, hb5⟩
        exact ⟨rfl, rfl, HB4.out.trans (hb5.mono HB4.out.size)⟩
      | cons sq lq' =>
        obtain ⟨rfl, hlq3⟩ : s = sq ∧ rest = lq' ++ sb :: lr := by cases hlq2; exact ⟨rfl, rfl⟩
        clear hlq2
        obtain ⟨lit, len, off⟩ := s
        have hcc := HI.out.2.1
        have hle := HI.out.2.2.1
        obtain ⟨bl, of', rfl, hbl, y0⟩ := hcc 0 (.int .i64 lit) rfl
        obtain ⟨_, _, e, _, y1⟩ := hcc 1 (.int .i64 len) rfl
        cases e
        obtain ⟨_, _, e, _, y2⟩ := hcc 2 (.int .i64 off) rfl
        cases e
        rw [Nat.add_zero] at y0
        have hb0 : Below w0.heap.size w0 wr := HW.out.trans (hb.below HW.out.size hcb0)
        replace y0 := (hb0.cell (p := ⟨bl, of', none⟩) hbl).trans y0
        replace y1 := (hb0.cell (p := ⟨bl, of' + 1, none⟩) hbl).trans y1
        replace y2 := (hb0.cell (p := ⟨bl, of' + 2, none⟩) hbl).trans y2
        have HIn := hid (HV.out pre ⟨lit, len, off⟩ lq' hlq1)
        have HQ := hid (And.intro hlq1 hlq3)
        have hL2 : l = (pre ++ [(⟨lit, len, off⟩ : Sq)]) ++ rest := by rw [HI.out.1, List.append_assoc]; rfl
        have hpl : pre.length + rest.length + 1 ≤ 900000 := by
          have h1 := HL.out
          rw [hL2] at h1
          simp only [List.length_append, List.length_cons, List.length_nil] at h1
          omega
        have HC2 := hid (show Cs w0 (some ⟨bl, of' + 3, none⟩) (rest.flatMap lsqc) from (fun j u hu => by
          obtain ⟨b2, o2, e1, e2, e3⟩ := hcc (3 + j) u (by
            show ([_, _, _] ++ rest.flatMap lsqc)[3 + j]? = some u
            rw [List.getElem?_append_right (by simp)]
            simpa using hu)
          simp only [Option.some.injEq, Addr.mk.injEq, and_true] at e1
          obtain ⟨rfl, rfl⟩ := e1
          exact ⟨bl, of' + 3, rfl, e2, by rw [Nat.add_assoc]; exact e3⟩))
        have HL2 := hid hL2
        have HPl := hid hpl
        have HX3 := hid (show Blk (((wr.setCell ⟨w.heap.size, 0, none⟩ (.int .i64 lit)).setCell ⟨w.heap.size, 1, none⟩ (.int .i64 len)).setCell ⟨w.heap.size, 2, none⟩ (.int .i64 off)) w.heap.size (lstc ⟨⟨lit, len, off⟩, pre.length, lend 0 pre, 131072, 0, 0⟩) 176 from lst_set w.heap.size 176 s0 ⟨lit, len, off⟩ _ _ _ _ _ wr hx)
        have hne : w.heap.size ≠ A9 := by omega
        have hne2 : w.heap.size ≠ cb := by omega
        have HNo := hid (fun (b : Nat) (hb : b < w2.heap.size) (W : World) (v : Value) (n : Nat) (xs : List Value) (h : W.ownsRow w2.heap.size 176 8 v n xs) => (fun e => by have := (h.lt _ e).1; omega : v.ownBlock ≠ some b))
        have hw2 : w.heap.size < w2.heap.size := by omega
        have HO3 := hid (ownsRow_other (ownsRow_other (ownsRow_other ho (a := ⟨w.heap.size, 0, none⟩) (HNo.out _ hw2 _ _ _ _ ho) (.int .i64 lit)) (a := ⟨w.heap.size, 1, none⟩) (HNo.out _ hw2 _ _ _ _ ho) (.int .i64 len)) (a := ⟨w.heap.size, 2, none⟩) (HNo.out _ hw2 _ _ _ _ ho) (.int .i64 off))
        have HA3 := hid (((ha.other (a := ⟨w.heap.size, 0, none⟩) (.int .i64 lit) hne).other (a := ⟨w.heap.size, 1, none⟩) (.int .i64 len) hne).other (a := ⟨w.heap.size, 2, none⟩) (.int .i64 off) hne)
        have HD3 := hid (((hd.other (a := ⟨w.heap.size, 0, none⟩) (.int .i64 lit) hne2).other (a := ⟨w.heap.size, 1, none⟩) (.int .i64 len) hne2).other (a := ⟨w.heap.size, 2, none⟩) (.int .i64 off) hne2)
        have HB3 := hid (((hb.set ⟨w.heap.size, 0, none⟩ (.int .i64 lit) (.inl (Nat.le_refl _))).set ⟨w.heap.size, 1, none⟩ (.int .i64 len) (.inl (Nat.le_refl _))).set ⟨w.heap.size, 2, none⟩ (.int .i64 off) (.inl (Nat.le_refl _)))
        have HS3 := hid (show w2.heap.size ≤ (((wr.setCell ⟨w.heap.size, 0, none⟩ (.int .i64 lit)).setCell ⟨w.heap.size, 1, none⟩ (.int .i64 len)).setCell ⟨w.heap.size, 2, none⟩ (.int .i64 off)).heap.size from by simpa using hsz)
        have c0 := hx.cell (k := 0) rfl
        have c1 := hx.cell (k := 1) rfl
        have c2 := hx.cell (k := 2) rfl
        have z0 := hx.frozen 0
        have z1 := hx.frozen 1
        have z2 := hx.frozen 2
        simp only [List.length_cons] at hle ⊢
        have hcI : ((rest.length : Int) + 1) ≤ (c' : Int) := by omega
        have hc1 : rest.length + 1 ≤ c' := hle
        have hlI : (0 : Int) < ((rest.length + 1 : Nat) : Int) := by omega
        have hlI2 : (1 : Int) ≤ ((rest.length + 1 : Nat) : Int) := by omega
        clear hcc hx ha hb hd ho hb0 hL2 hpl HI hle hsz hlq1 hlq3
        go_wp2_with fail
        generalize ((wr.setCell ⟨w.heap.size, 0, none⟩ (.int .i64 lit)).setCell ⟨w.heap.size, 1, none⟩ (.int .i64 len)).setCell ⟨w.heap.size, 2, none⟩ (.int .i64 off) = w3 at *
        clear y0 y1 y2 c0 c1 c2 z0 z1 z2
        refine wp_loop_rounds 2 ?_
        rw [rounds_succ]
        have c0 := HX3.out.cell (k := 0) rfl
        have c1 := HX3.out.cell (k := 1) rfl
        have c2 := HX3.out.cell (k := 2) rfl
        have c3 := HX3.out.cell (k := 3) rfl
        have c4 := HX3.out.cell (k := 4) rfl
        have c5 := HX3.out.cell (k := 5) rfl
        have c6 := HX3.out.cell (k := 6) rfl
        have c7 := HX3.out.cell (k := 7) rfl
        have k0 := HA3.out.cell (k := 0) rfl
        dsimp only at c0 c1 c2 c3 c4 c5 c6 c7
        go_wp2_with fail
        have e0 := fun V : LowOf w3.heap.size w3 => V.cell c0 HX3.out.lt
        have e1 := fun V : LowOf w3.heap.size w3 => V.cell c1 HX3.out.lt
        have e2 := fun V : LowOf w3.heap.size w3 => V.cell c2 HX3.out.lt
        have e3 := fun V : LowOf w3.heap.size w3 => V.cell c3 HX3.out.lt
        have e4 := fun V : LowOf w3.heap.size w3 => V.cell c4 HX3.out.lt
        have e5 := fun V : LowOf w3.heap.size w3 => V.cell c5 HX3.out.lt
        have e6 := fun V : LowOf w3.heap.size w3 => V.cell c6 HX3.out.lt
        have e7 := fun V : LowOf w3.heap.size w3 => V.cell c7 HX3.out.lt
        have HV1 := hid (fun V : LowOf w3.heap.size w3 => Calls.low_of V (Nat.le_refl _) (HM1.out _ V.W HIn.out))
        have HV2 := hid (fun V : LowOf w3.heap.size w3 => Calls.low_of V (Nat.le_refl _) (HMu.out ⟨⟨lit, len, off⟩, pre.length, lend 0 pre, 131072, 0, 0⟩ V.W))
        dsimp only at HV1 HV2
        clear c0 c1 c2 c3 c4 c5 c6 c7
        clear k0
        refine wp_region_low w3.heap.size (by kernel_rfl) (by kernel_rfl) ?_
        repeat (go_big_quiet_step (first | with_reducible exact HV1.out _ | with_reducible exact HV2.out _))
        refine wpQuiet_nil ?_
        rintro _ ⟨V, rfl⟩
        clear e0 e1 e2 e3 e4 e5 e6 e7
        clear HV1 HV2
        have HX5 := hid (HX3.out.below V.below HX3.out.lt)
        have HA5 := hid (HA3.out.below V.below HA3.out.lt)
        have HD5 := hid (HD3.out.below V.below HD3.out.lt)
        have HO5 := hid (own_low HO3.out V.below)
        have HS5 := hid (Nat.le_trans HS3.out V.below.size)
        have HB5 := hid (HB3.out.trans ((LKeep.of_below V.below).mono (Nat.le_trans hB2 HS3.out)))
        generalize V.W = w5 at *
        clear V
        go_wp2_with fail
        rw [rounds_succ]
        have c0 := HX5.out.cell (k := 0) rfl
        have c1 := HX5.out.cell (k := 1) rfl
        have c2 := HX5.out.cell (k := 2) rfl
        have c3 := HX5.out.cell (k := 3) rfl
        have c4 := HX5.out.cell (k := 4) rfl
        have c5 := HX5.out.cell (k := 5) rfl
        have c6 := HX5.out.cell (k := 6) rfl
        have c7 := HX5.out.cell (k := 7) rfl
        dsimp only at c0 c1 c2 c3 c4 c5 c6 c7
        go_wp2_with fail
        refine (HF.out ⟨⟨lit, len, off⟩, pre.length, lend 0 pre, 131072, 0, 0⟩ cb w2.heap.size pre.length v _ _ HD5.out HO5.out (by have := HPl.out; omega) HS5.out (by omega)).mono ?_
        rintro e w6 ⟨rfl, ⟨v6, hd6, ho6⟩, hk6⟩
        clear c0 c1 c2 c3 c4 c5 c6 c7
        have HX6 := hid (hk6.blk HX5.out hw2 (fun e => hne2 (by cases e; rfl)))
        have HA6 := hid (hk6.blk HA5.out (by omega) (fun e => by cases e; omega))
        have HD6 := hid hd6
        have HO6 := hid ho6
        have HS6 := hid (Nat.le_trans HS5.out hk6.size)
        have HB6 := hid (HB5.out.trans (hk6.mono hB2))
        clear hd6 ho6 hk6
        have c0 := HX6.out.cell (k := 0) rfl
        have c1 := HX6.out.cell (k := 1) rfl
        have c2 := HX6.out.cell (k := 2) rfl
        have c3 := HX6.out.cell (k := 3) rfl
        have c4 := HX6.out.cell (k := 4) rfl
        have c5 := HX6.out.cell (k := 5) rfl
        have c6 := HX6.out.cell (k := 6) rfl
        have c7 := HX6.out.cell (k := 7) rfl
        dsimp only at c0 c1 c2 c3 c4 c5 c6 c7
        go_wp2_with fail
        refine (HE.out _ _ HIn.out).mono ?_
        rintro e w7 ⟨rfl, hb7⟩
        dsimp only
        clear c0 c1 c2 c3 c4 c5 c6 c7
        have HX7 := hid (HX6.out.below hb7 HX6.out.lt)
        have HA7 := hid (HA6.out.below hb7 HA6.out.lt)
        have HD7 := hid (HD6.out.below hb7 HD6.out.lt)
        have HO7 := hid (own_low HO6.out hb7)
        have HS7 := hid (Nat.le_trans HS6.out hb7.size)
        have HB7 := hid (HB6.out.trans ((LKeep.of_below hb7).mono (Nat.le_trans hB2 HS6.out)))
        have c0 := HX7.out.cell (k := 0) rfl
        have c1 := HX7.out.cell (k := 1) rfl
        have c2 := HX7.out.cell (k := 2) rfl
        have c3 := HX7.out.cell (k := 3) rfl
        have c4 := HX7.out.cell (k := 4) rfl
        have c5 := HX7.out.cell (k := 5) rfl
        have c6 := HX7.out.cell (k := 6) rfl
        have c7 := HX7.out.cell (k := 7) rfl
        dsimp only at c0 c1 c2 c3 c4 c5 c6 c7
        clear hb7
        have z3 := HX7.out.frozen 3
        have z4 := HX7.out.frozen 4
        have HX9 := hid ((HX7.out.set 4 (.int .i64 (lend 0 pre + lit + len))).set 3 (.int .i64 ((pre.length : Int) + 1)))
        have HA9 := hid ((HA7.out.other (a := ⟨w.heap.size, 4, none⟩) (.int .i64 (lend 0 pre + lit + len)) hne).other (a := ⟨w.heap.size, 3, none⟩) (.int .i64 ((pre.length : Int) + 1)) hne)
        have HD9 := hid ((HD7.out.other (a := ⟨w.heap.size, 4, none⟩) (.int .i64 (lend 0 pre + lit + len)) hne2).other (a := ⟨w.heap.size, 3, none⟩) (.int .i64 ((pre.length : Int) + 1)) hne2)
        have HO9 := hid (ownsRow_other (ownsRow_other HO7.out (a := ⟨w.heap.size, 4, none⟩) (HNo.out _ hw2 _ _ _ _ HO7.out) (.int .i64 (lend 0 pre + lit + len))) (a := ⟨w.heap.size, 3, none⟩) (HNo.out _ hw2 _ _ _ _ HO7.out) (.int .i64 ((pre.length : Int) + 1)))
        have HS9 := hid (show w2.heap.size ≤ ((w7.setCell ⟨w.heap.size, 4, none⟩ (.int .i64 (lend 0 pre + lit + len))).setCell ⟨w.heap.size, 3, none⟩ (.int .i64 ((pre.length : Int) + 1))).heap.size from by simpa using HS7.out)
        have HB9 := hid ((HB7.out.set ⟨w.heap.size, 4, none⟩ (.int .i64 (lend 0 pre + lit + len)) (.inl (Nat.le_refl _))).set ⟨w.heap.size, 3, none⟩ (.int .i64 ((pre.length : Int) + 1)) (.inl (Nat.le_refl _)))
        have hplI : (pre.length : Int) + 1 ≤ 1000000 := by have := HPl.out; omega
        have HFin := hid (show Blk ((w7.setCell ⟨w.heap.size, 4, none⟩ (.int .i64 (lend 0 pre + lit + len))).setCell ⟨w.heap.size, 3, none⟩ (.int .i64 ((pre.length : Int) + 1))) w.heap.size (lstc ⟨⟨lit, len, off⟩, ((pre ++ [(⟨lit, len, off⟩ : Sq)]).length : Nat), lend 0 (pre ++ [(⟨lit, len, off⟩ : Sq)]), 131072, 0, 0⟩) 176 ∧ ((w7.setCell ⟨w.heap.size, 4, none⟩ (.int .i64 (lend 0 pre + lit + len))).setCell ⟨w.heap.size, 3, none⟩ (.int .i64 ((pre.length : Int) + 1))).ownsRow w2.heap.size 176 8 v6 (pre ++ [(⟨lit, len, off⟩ : Sq)]).length ((lsts 131072 0 0 (pre ++ [(⟨lit, len, off⟩ : Sq)])).flatMap lstc) from by
          rw [lend_snoc1, List.length_append, lsts_snoc, List.flatMap_append]
          refine ⟨HX9.out, ?_⟩
          rw [List.flatMap_cons, List.flatMap_nil, List.append_nil]
          exact HO9.out)
        by_cases h1 : rest.length = 0
        · have hr : rest = [] := List.eq_nil_of_length_eq_zero h1
          subst hr
          go_wp2
          go_roundg 0
          case measure => have := HGl.out; simp only [List.length_cons] at this; omega
          case rel => exact ⟨pre ++ [(⟨lit, len, off⟩ : Sq)], [], some ⟨bl, of', none⟩, 0, ⟨lit, len, off⟩, v6, hid ⟨HL2.out, (fun j u hu => by simp at hu), Nat.le_refl _, lq', by rw [List.append_assoc]; exact HQ.out.1, HQ.out.2⟩, rfl, rfl, HFin.out.1, HA9.out, HD9.out, HFin.out.2, HS9.out, HB9.out⟩
        · go_wp2
          go_roundg rest.length
          case measure => have := HGl.out; simp only [List.length_cons] at this; omega
          case rel => exact ⟨pre ++ [(⟨lit, len, off⟩ : Sq)], rest, some ⟨bl, of' + 3, none⟩, rest.length, ⟨lit, len, off⟩, v6, hid ⟨HL2.out, HC2.out, Nat.le_refl _, lq', by rw [List.append_assoc]; exact HQ.out.1, HQ.out.2⟩, rfl, rfl, HFin.out.1, HA9.out, HD9.out, HFin.out.2, HS9.out, HB9.out⟩
end Go.Proofs.YtiagbejfghincaaGreat
