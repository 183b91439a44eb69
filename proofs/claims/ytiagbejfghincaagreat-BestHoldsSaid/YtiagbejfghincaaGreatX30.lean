/-
  Plain laws of layer 33 (best): the rows of costs and first matches while the table is made; an append in a region of open order; a made row.
  Plain laws of layer 29: what the match found is. No program in sight. Plain laws of layers 30 and 31: a plan fits its data, and what it costs. No program in sight. Plain laws of layers 30 and 31: the rest of a plan is the plan from where its head ends. No program in sight. Plain laws of layers 30 and 31: the positions of a plan's matches. No program in sight.
  The walks of the reference of layer 29: the distances of the candidates. The walks of the reference of layer 29: the positions of the candidates, the match found. The walks of the reference of layer 29: New.
-/
import Derived.Test.YtiagbejfghincaaGreatX24
import Derived.Test.YtiagbejfghincaaGreatX29
import Derived.Test.YtiagbejfghincaaGreatX01
import Derived.Test.YtiagbejfghincaaGreatX26
import Derived.Test.YtiagbejfghincaaGreatX27
import Derived.Test.YtiagbejfghincaaGreatX08
import Derived.Test.YtiagbejfghincaaGreatX25
import Derived.Test.YtiagbejfghincaaGreatX28
import Derived.Laws.MakeOwn
import Derived.Laws.AppendOwnNone
import Derived.Deep.RegionHeld3
namespace Go.Port
open Go.RowKit
def costsN (n : Nat) (t : List (Sq × Int)) : List Int := List.replicate (n - t.length) 0 ++ costsL t
def firstsN (n : Nat) (t : List (Sq × Int)) : List Sq := List.replicate (n - t.length) ⟨0, 0, 0⟩ ++ t.map (·.1)
theorem costsN_length {n : Nat} {t : List (Sq × Int)} (h : t.length ≤ n) : (costsN n t).length = n + 1 := by
  unfold costsN
  rw [List.length_append, List.length_replicate, costsL_length]
  omega
theorem firstsN_length {n : Nat} {t : List (Sq × Int)} (h : t.length ≤ n) : (firstsN n t).length = n := by
  unfold firstsN
  rw [List.length_append, List.length_replicate, List.length_map]
  omega
theorem costsN_all {n : Nat} {t : List (Sq × Int)} (h : t.length = n) : costsN n t = costsL t := by
  unfold costsN
  rw [h, Nat.sub_self]
  rfl
theorem firstsN_all {n : Nat} {t : List (Sq × Int)} (h : t.length = n) : firstsN n t = t.map (·.1) := by
  unfold firstsN
  rw [h, Nat.sub_self]
  rfl
theorem replicate_set {α : Type} (x y : α) : ∀ (i : Nat) (l : List α), (List.replicate (i + 1) x ++ l).set i y = List.replicate i x ++ y :: l := by
  intro i
  induction i with
  | zero => intro l; rfl
  | succ i ih => intro l; rw [List.replicate_succ, List.cons_append, List.set_cons_succ, ih, List.replicate_succ, List.cons_append]
theorem costsN_set {n : Nat} {t : List (Sq × Int)} {s : Sq} {v : Int} (h : t.length + 1 ≤ n) : (costsN n t).set (n - (t.length + 1)) v = costsN n ((s, v) :: t) := by
  unfold costsN
  rw [show n - t.length = (n - (t.length + 1)) + 1 from by omega, replicate_set]
  rfl
theorem firstsN_set {n : Nat} {t : List (Sq × Int)} {s : Sq} {v : Int} (h : t.length + 1 ≤ n) : (firstsN n t).set (n - (t.length + 1)) s = firstsN n ((s, v) :: t) := by
  unfold firstsN
  rw [show n - t.length = (n - (t.length + 1)) + 1 from by omega, replicate_set]
  rfl
theorem sqc_set (s : Sq) : ∀ (l : List Sq) (i : Nat), i < l.length → (((l.flatMap sqc).set (i * 3) (.int .i64 s.lit)).set (i * 3 + 1) (.int .i64 s.len)).set (i * 3 + 2) (.int .i64 s.off) = (l.set i s).flatMap sqc := by
  intro l
  induction l with
  | nil => intro i h; exact absurd h (Nat.not_lt_zero _)
  | cons x r ih =>
    intro i h
    cases i with
    | zero => rfl
    | succ i =>
      have h2 := ih i (by simpa using h)
      rw [List.set_cons_succ, List.flatMap_cons, List.flatMap_cons, ← h2, show (i + 1) * 3 = i * 3 + 1 + 1 + 1 from by omega]
      rfl
theorem costsN_get {n : Nat} {t : List (Sq × Int)} (k : Nat) : (costsN n t).getD (n - t.length + k) 0 = costAt t k := by
  unfold costsN costAt
  rw [List.getD_eq_getElem?_getD, List.getElem?_append_right (by rw [List.length_replicate]; omega), List.length_replicate, Nat.add_sub_cancel_left, List.getD_eq_getElem?_getD]
theorem costsN_mem {n : Nat} {t : List (Sq × Int)} {B : Int} (hB : 0 ≤ B) (h : ∀ j, 0 ≤ costAt t j ∧ costAt t j ≤ B) : ∀ x ∈ costsN n t, 0 ≤ x ∧ x ≤ B := by
  intro x hx
  unfold costsN at hx
  rcases List.mem_append.1 hx with hx | hx
  · rw [(List.mem_replicate.1 hx).2]
    exact ⟨Int.le_refl _, hB⟩
  · obtain ⟨j, hj, rfl⟩ := List.getElem_of_mem hx
    have := h j
    unfold costAt at this
    rwa [List.getD_eq_getElem?_getD, List.getElem?_eq_getElem hj] at this
theorem zeros_sqc (n : Nat) : (List.replicate n (⟨0, 0, 0⟩ : Sq)).flatMap sqc = List.replicate (n * 3) (.int .i64 0) := by
  induction n with
  | zero => rfl
  | succ n ih => rw [List.replicate_succ, List.flatMap_cons, ih, show (n + 1) * 3 = n * 3 + 1 + 1 + 1 from by omega]; rfl
theorem made_all {z : Array Value} {u : Value} (h : ∀ j, j < z.size → z[j]! = u) (hz : 0 < z.size) (n : Nat) : madeCells z n = (List.replicate n u).toArray := by
  apply Array.ext
  · simp [size_madeCells]
  · intro i h1 h2
    simp only [madeCells, Array.getElem_map, Array.getElem_range, List.getElem_toArray, List.getElem_replicate]
    exact h _ (Nat.mod_lt _ hz)
/-- An append of a row that may be nil, in a region of open order. -/
theorem step_appendsK {P : Program} {ops : Array Oper} {o : Oper} {a : Act} {W : World} {K : Act → World → Prop} {Q : Exit → Act → World → Prop} {E : Prop}
    (hg : o.guard = none) (s x : Operand) (t : TypeId) (ho : o.op = .call { callee := .builtin .append, args := #[s, x], argTypes := #[t, t] }) (e : TypeId) (z : Value) (sz bytes : Nat) (ht : P.underlying t = some (.slice e))
    (hi : (P.info? e).map (fun i => (i.zero, i.size, i.bytes)) = some (some z, sz, bytes)) (hz : z.cells.size = sz) (hsz : 0 < sz) (base : Nat) (v : Value) (n m c : Nat) (ad : Option Addr) (xs us : List Value)
    (hus : us.length = m * sz) (hu : ∀ u ∈ us, u.oneCell' = true) (hs : a.eval s = v) (hx : a.eval x = .slice ad m c) (had : ad = none → c = 0) (hmc : m ≤ c) (hc : CellsAt W ad us)
    (hown : W.ownsRow base e sz v n xs) (h63 : n + m ≤ maxLen) (hn : (n + m) * bytes ≤ 140737488355328) (hbase : base ≤ W.heap.size)
    (h : ∀ v' w', w'.ownsRow base e sz v' (n + m) (xs ++ us) → W.grownBy w' v.ownBlock → K (a.put o.dst v') w') :
    if Region.wanted o (yielded ops a.tmps) = true then Oper.wp P o a W K Q else E := by
  have hw : Region.wanted o (yielded ops a.tmps) = true := by simp [Region.wanted, hg]
  rw [if_pos hw]
  obtain ⟨i0, hi0, hz0, hz1, hz2⟩ := info_parts hi
  cases ad with
  | none =>
    have hc0 : c = 0 := had rfl
    subst hc0
    obtain rfl : m = 0 := by omega
    have : us = [] := List.eq_nil_of_length_eq_zero (by omega)
    subst this
    have hrun := run_append_owned_none (P := P) (w := W) base t o.type e i0 sz ht hi0 v n xs hown
    unfold Oper.wp
    simp [execOp, ho, resolve, invoke, builtin, hs, hx, hrun, Result.andThen]
    exact h v W (by simpa using hown) (World.grownBy.refl W _)
  | some ad =>
    refine wp_append_own W s x t ho base e i0 z sz bytes ht hi0 hz0 hz1 hz2 hz hsz v n xs hs hown ad m c us hx hus (fun j u hj => ?_) hu h63 hn hbase (fun v' w' h1 h2 _ => h v' w' h1 h2)
    obtain ⟨b, off, e1, _, e2⟩ := hc j u hj
    simp only [Option.some.injEq] at e1
    subst e1
    rw [Go.WideShapes.add_plain]
    exact e2
theorem own_lit {W : World} {g base : Nat} {e : TypeId} {x y z : Value} (h : Blk W g [x, y, z] e) (hb : base ≤ g) : W.ownsRow base e 3 (.slice (some ⟨g, 0, none⟩) 1 1) 1 [x, y, z] :=
  ⟨rfl, .inr ⟨g, 1, #[x, y, z], rfl, hb, h, Nat.le_refl _, by decide, rfl, rfl⟩⟩
end Go.Port
namespace Go.Port
open Go.RowKit
end Go.Port
namespace Go.Port
open Go.RowKit
end Go.Port
namespace Go.Port
open Go.RowKit
/-- Where a plan ends that starts at a. -/
def endOf (a : Int) : List Sq → Int
  | [] => a
  | s :: r => endOf (a + s.lit + s.len) r
theorem endOf_snoc (l : List Sq) (x : Sq) : ∀ a, endOf a (l ++ [x]) = endOf a l + x.lit + x.len := by
  induction l with
  | nil => intro a; rfl
  | cons y r ih => intro a; exact ih _
end Go.Port
namespace Go.Port
open Go.RowKit
end Go.Port
namespace Go.Port
open Go.RowKit
/-- The reference's finder. -/
def fdc (a : Option Addr) (n c : Nat) (A W D : Int) : List Value := [.slice a n c, .int .i64 A, .int .i64 W, .int .i64 D]
def fdv (a : Option Addr) (n c : Nat) (A W D : Int) : Value := .agg #[.slice a n c, .int .i64 A, .int .i64 W, .int .i64 D]
end Go.Port
namespace Go.Proofs.YtiagbejfghincaaGreat
open Go.RowKit Go.Port
end Go.Proofs.YtiagbejfghincaaGreat
namespace Go.Port
open Go.RowKit
end Go.Port
namespace Go.Proofs.YtiagbejfghincaaGreat
open Go.RowKit Go.Port
end Go.Proofs.YtiagbejfghincaaGreat
namespace Go.Proofs.YtiagbejfghincaaGreat
open Go.RowKit Go.Port
set_option maxRecDepth 100000 in
set_option maxHeartbeats 4000000 in
theorem rnew_bad (a1 a2 : Option Addr) (n1 n2 c1 c2 : Nat) (W dep : Int) (w : World) (h : finderOk n2 W dep = false) :
    Calls Tryz.prog 30 #[.slice a1 n1 c1, .slice a2 n2 c2, .int .i64 W, .int .i64 dep] w (RetV w (.tuple #[fdv none 0 0 0 0 0, .int .i64 2])) := by
  have hc : W < 1 ∨ (1 ≤ W ∧ 134217728 < W) ∨ (1 ≤ W ∧ W ≤ 134217728 ∧ dep < 1) ∨ (1 ≤ W ∧ W ≤ 134217728 ∧ 1 ≤ dep ∧ 4096 < dep) ∨ (1 ≤ W ∧ W ≤ 134217728 ∧ 1 ≤ dep ∧ dep ≤ 4096 ∧ 131072 < (n2 : Int)) := by
    unfold finderOk at h
    simp only [Bool.and_eq_false_iff, decide_eq_false_iff_not] at h
    omega
  clear h
  have hX := Blk.new w (fdc none 0 0 0 0 0) 30
  have hB := below_new w (.cells (fdc none 0 0 0 0 0).toArray 30)
  unfold fdc at hX hB
  have HB := hid hB
  have z0 := hX.frozen 0
  have z1 := hX.frozen 1
  have z2 := hX.frozen 2
  have z3 := hX.frozen 3
  have p0 := hX.cell (k := 0) rfl
  have p1 := hX.cell (k := 1) rfl
  have p2 := hX.cell (k := 2) rfl
  have p3 := hX.cell (k := 3) rfl
  unfold fdv
  clear hX hB
  go_enter Tryz.func30, Tryz.ntmps30
  rcases hc with h | ⟨h1, h2⟩ | ⟨h1, h2, h3⟩ | ⟨h1, h2, h3, h4⟩ | ⟨h1, h2, h3, h4, h5⟩
  all_goals
    go_wp2
    refine bodyPost_ret (v := .tuple #[.agg #[.slice none 0 0, .int .i64 0, .int .i64 0, .int .i64 0], .int .i64 2]) (by simp [results, Tryz.results30, go_sem]) rfl ?_
    exact ⟨rfl, HB.out⟩
set_option maxRecDepth 100000 in
set_option maxHeartbeats 4000000 in
theorem rnew_ok (a1 a2 : Option Addr) (c1 c2 : Nat) (A D : List UInt8) (W dep : Int) (w : World) (hA : A.length ≤ 800000) (hD : (D.length : Int) ≤ 131072) (h1 : A.length ≤ c1) (h2 : D.length ≤ c2) (h3 : a1 = none → c1 = 0) (h4 : a2 = none → c2 = 0)
    (hc1 : CellsAt w a1 (A.map bv)) (hc2 : CellsAt w a2 (D.map bv)) (hW : 1 ≤ W) (hW2 : W ≤ 134217728) (hd : 1 ≤ dep) (hd2 : dep ≤ 4096) :
    Calls Tryz.prog 30 #[.slice a1 A.length c1, .slice a2 D.length c2, .int .i64 W, .int .i64 dep] w fun e w' => ∃ a c, e = .returned (.tuple #[fdv a (A ++ D).length c A.length W dep, .int .i64 0]) ∧ (A ++ D).length ≤ c ∧ CellsAt w' a ((A ++ D).map bv) ∧ Below w.heap.size w w' := by
  obtain ⟨bs, hbs⟩ : ∃ bs, A ++ D = bs := ⟨_, rfl⟩
  have HBs := hid hbs
  rw [hbs]
  clear hbs
  have hX := Blk.new w (fdc none 0 0 0 0 0) 30
  have hB := below_new w (.cells (fdc none 0 0 0 0 0).toArray 30)
  unfold fdc at hX hB
  have HC1 := hid (fun W' (h : Below w.heap.size w W') => hc1.low h)
  have HC2 := hid (fun W' (h : Below w.heap.size w W') => hc2.low h)
  have HX := hid hX
  have HB := hid hB
  have HAl := hid hA
  have hDl : D.length ≤ 131072 := by omega
  have HDl := hid hDl
  have H34 := hid (And.intro h1 (And.intro h2 (And.intro h3 h4)))
  unfold fdv
  clear hX hB hc1 hc2 hA h1 h2 h3 h4 hDl
  go_enter Tryz.func30, Tryz.ntmps30
  go_wp2_with (at_builtin; refine Hid.out ?_)
  refine hid ?_
  obtain ⟨w0, hw0, hz0⟩ : ∃ w0, w.alloc (.cells #[.slice none 0 0, .int .i64 0, .int .i64 0, .int .i64 0] 30) = w0 ∧ w0.heap.size = w.heap.size + 1 := ⟨_, rfl, by simp⟩
  rw [hw0] at HX HB ⊢
  have HE0 := hid (own_emptyK (w := w0) (e := 5) 1 (Nat.le_refl _))
  rw [hz0] at HE0
  have HX1 := hid (HX.out.alloc (.cells #[] 5))
  have HB1 := hid (HB.out.alloc HB.out.size (.cells #[] 5))
  have HXlt := hid (Nat.lt_succ_self w.heap.size)
  have hs0 : w.heap.size + 1 ≤ (w0.alloc (.cells #[] 5)).heap.size := by simp [hz0]
  have hsw : w.heap.size ≤ w.heap.size + 1 := Nat.le_succ _
  clear hw0 hz0
  generalize w0.alloc (.cells #[] 5) = w1 at *
  refine wpList_appendsK rfl _ _ 22 rfl 5 _ 1 1 Tryz.underlying22 Tryz.info_byte rfl (by decide) (by decide) w1 (w.heap.size + 1) _ 0 A.length c1 a1 [] (A.map bv) (by simp) ?hu rfl rfl H34.out.1 H34.out.2.2.1 (HC1.out w1 HB1.out) (by exact HE0.out) ?hn hs0 ?hk
  case hu =>
    intro u hu
    obtain ⟨x, _, rfl⟩ := List.mem_map.1 hu
    rfl
  case hn => have := HAl.out; omega
  case hk =>
    intro v1 w2 hown1 hg1
    rw [List.nil_append, Nat.zero_add] at hown1
    have hbg1 := below_grown HE0.out hg1 hs0
    have HO1 := hid hown1
    have HX2 := hid (HX1.out.grown hg1 (own_neT HE0.out HX1.out (by decide)))
    have HB2 := hid (HB1.out.trans (hbg1.mono hsw))
    have hs2 : w.heap.size + 1 ≤ w2.heap.size := Nat.le_trans hs0 hbg1.size
    clear hown1 hg1 hbg1 HE0 HX1 HB1 hs0
    obtain ⟨b1, d1, rfl⟩ := own_slice HO1.out
    go_wp2_with (at_builtin; refine Hid.out ?_)
    refine hid ?_
    refine wpList_appendsK rfl _ _ 22 rfl 5 _ 1 1 Tryz.underlying22 Tryz.info_byte rfl (by decide) (by decide) w2 (w.heap.size + 1) _ A.length D.length c2 a2 (A.map bv) (D.map bv) (by simp) ?hu2 rfl rfl H34.out.2.1 H34.out.2.2.2 (HC2.out w2 HB2.out) (by exact HO1.out) ?hn2 hs2 ?hk2
    case hu2 =>
      intro u hu
      obtain ⟨x, _, rfl⟩ := List.mem_map.1 hu
      rfl
    case hn2 => have := HAl.out; have := HDl.out; omega
    case hk2 =>
      intro v2 w3 hown2 hg2
      rw [← List.length_append, ← List.map_append, HBs.out] at hown2
      have hbg2 := below_grown HO1.out hg2 hs2
      have hX3 := HX2.out.grown hg2 (own_neT HO1.out HX2.out (by decide))
      have hB3 := HB2.out.trans (hbg2.mono hsw)
      obtain ⟨b2, d2, rfl⟩ := own_slice hown2
      have hcl := (Sl.of_owns hown2).cells' rfl
      have hcap := (Sl.of_owns hown2).cap rfl
      have HO2 := hid hown2
      have z0 := hX3.frozen 0
      have z1 := hX3.frozen 1
      have z2 := hX3.frozen 2
      have z3 := hX3.frozen 3
      have p0 := hX3.cell (k := 0) rfl
      have p1 := hX3.cell (k := 1) rfl
      have p2 := hX3.cell (k := 2) rfl
      have p3 := hX3.cell (k := 3) rfl
      have HX9 := hid ((((hX3.set 0 (.slice b2 bs.length d2)).set 1 (.int .i64 (A.length : Int))).set 2 (.int .i64 W)).set 3 (.int .i64 dep))
      have HB9 := hid ((((hB3.setCell (p := ⟨w.heap.size, 0, none⟩) (Nat.le_refl _) (.slice b2 bs.length d2)).setCell (p := ⟨w.heap.size, 1, none⟩) (Nat.le_refl _) (.int .i64 (A.length : Int))).setCell (p := ⟨w.heap.size, 2, none⟩) (Nat.le_refl _) (.int .i64 W)).setCell (p := ⟨w.heap.size, 3, none⟩) (Nat.le_refl _) (.int .i64 dep))
      have HO9 := hid (own_far (own_far (own_far (own_far hown2 (a := ⟨w.heap.size, 0, none⟩) (.slice b2 bs.length d2) HXlt.out) (a := ⟨w.heap.size, 1, none⟩) (.int .i64 (A.length : Int)) HXlt.out) (a := ⟨w.heap.size, 2, none⟩) (.int .i64 W) HXlt.out) (a := ⟨w.heap.size, 3, none⟩) (.int .i64 dep) HXlt.out)
      have HCap := hid hcap.1
      clear hcl hcap hown2 hX3 hB3 hbg2 hg2
      go_wp2
      have r0 := HX9.out.cell (k := 0) rfl
      have r1 := HX9.out.cell (k := 1) rfl
      have r2 := HX9.out.cell (k := 2) rfl
      have r3 := HX9.out.cell (k := 3) rfl
      refine bodyPost_ret (v := .tuple #[.agg #[.slice b2 bs.length d2, .int .i64 (A.length : Int), .int .i64 W, .int .i64 dep], .int .i64 0]) (by simp [results, Tryz.results30, go_sem, r0, r1, r2, r3]) rfl ?_
      exact ⟨_, _, rfl, HCap.out, (Sl.of_owns HO9.out).cells' rfl, HB9.out⟩
end Go.Proofs.YtiagbejfghincaaGreat
