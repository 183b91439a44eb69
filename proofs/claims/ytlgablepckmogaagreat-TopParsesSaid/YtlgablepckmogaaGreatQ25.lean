/-
  Reference 22: where a plan's sequences start, its size, its literals.
  The walks of reference 32 (price), second part: Symbol, Lits, number, Count, Off, Len, Step.
  The walks of layer 32 (price): what a plan costs.
  Plain laws of layer 32 for the stage's theorem: no cost is negative, more frequent symbols do not cost more, a plan's cost is the sum of its parts' costs.
  Plain laws of layer 33 (best): the table of minimal costs, its plan, and what that plan costs.
-/
import Derived.Test.YtlgablepckmogaaGreatQ24
import Derived.Test.YtlgablepckmogaaGreatQ19
import Derived.Test.YtlgablepckmogaaGreatQ14
import Derived.Test.YtlgablepckmogaaGreatQ12
import Derived.Deep.QuietTactic
namespace Go.Port
open Go.RowKit
end Go.Port
namespace Go.Proofs.YtlgablepckmogaaGreat
open Go.RowKit Go.Port
theorem own_neT {w : World} {base sz n q : Nat} {e t : TypeId} {v : Value} {xs vs : List Value} (h : w.ownsRow base e sz v n xs) (hb : Blk w q vs t) (ht : t ≠ e) : some q ≠ v.ownBlock := fun e' => by
  obtain ⟨h1, h2⟩ := h
  rcases h2 with ⟨rfl, _⟩ | ⟨g, cap, cur, rfl, h3, h4, h5⟩
  · cases e'
  · simp only [Value.ownBlock, Option.some.injEq] at e'
    subst e'
    have := (show _ = _ from hb).symm.trans h4
    simp only [Option.some.injEq, Obj.cells.injEq] at this
    exact ht this.2.1
end Go.Proofs.YtlgablepckmogaaGreat
namespace Go.Proofs.YtlgablepckmogaaGreat
open Go.RowKit Go.Port
/-- The reference's model. -/
structure RfAt (w : World) (A : Nat → Option Addr) (cp : Nat → Nat) (C : Nat → List Int) : Prop where
  four : FourAt w A cp C
  ok : ∀ k, k < 4 → HistOk k (C k)
theorem RfAt.low {w w' : World} {A : Nat → Option Addr} {cp : Nat → Nat} {C : Nat → List Int} (h : RfAt w A cp C) (hb : Below w.heap.size w w') : RfAt w' A cp C := ⟨h.four.low hb, h.ok⟩
end Go.Proofs.YtlgablepckmogaaGreat
namespace Go.Port
open Go.RowKit
/-- The matches' costs behind n, if each has one. -/
def stepsGo (C : Nat → List Int) : Int → List Sq → Option Int
  | n, [] => some n
  | n, s :: r => match stepC C s.len s.off with
    | some x => stepsGo C (n + x) r
    | none => none
/-- What a plan costs. -/
def planO (C : Nat → List Int) (bs : List UInt8) (l : List Sq) : Option Int := stepsGo C (litsC C (litsS bs l)) l
theorem stepC_bounds {C : Nat → List Int} (h : ∀ k, k < 4 → HistOk k (C k)) {n off x : Int} (e : stepC C n off = some x) : -65536 ≤ x ∧ x ≤ 65536 := by
  unfold stepC at e
  split at e
  · cases e
  · cases hb : numC C 2 (off + 3) with
    | none => rw [hb] at e; cases e
    | some b =>
      cases ha : lenC C n with
      | none => rw [hb, ha] at e; cases e
      | some a =>
        rw [hb, ha] at e
        have e : b + a = x := by simpa using e
        have h1 := numC_bounds (by decide) (h 2 (by decide)) hb
        have h2 : -16384 ≤ a ∧ a ≤ 32768 := by
          unfold lenC at ha
          split at ha
          · cases ha
          · exact numC_bounds (by decide) (h 3 (by decide)) ha
        omega
end Go.Port
namespace Go.Proofs.YtlgablepckmogaaGreat
open Go.RowKit Go.Port
end Go.Proofs.YtlgablepckmogaaGreat
namespace Go.Port
open Go.RowKit
theorem getD_le_sum : ∀ {c : List Int}, (∀ x ∈ c, Cnt x) → ∀ s, c.getD s 0 ≤ c.sum := by
  intro c
  induction c with
  | nil => intro _ s; simp
  | cons y r ih =>
    intro h s
    have h1 := sum_cnt (fun x hx => h x (List.mem_cons_of_mem _ hx) : ∀ x ∈ r, Cnt x)
    have h2 := h y (by simp)
    unfold Cnt at h2
    rw [List.sum_cons]
    cases s with
    | zero => simp only [List.getD_cons_zero]; omega
    | succ s =>
      have h3 := ih (fun x hx => h x (List.mem_cons_of_mem _ hx)) s
      simp only [List.getD_cons_succ]
      omega
theorem psym_nonneg {k : Nat} {c : List Int} (h : HistOk k c) (s : Nat) : 0 ≤ psym k c s := by
  have h1 := getD_le_sum h.2 s
  have h2 := getD_cnt h.2 s
  unfold Cnt at h2
  have h3 := symN_le k
  have h4 := lg_mono (a := c.getD s 0 + 1) (b := c.sum + symN k) (by omega) (by omega)
  unfold psym
  omega
theorem pcost_nonneg {k : Nat} {c : List Int} (h : HistOk k c) (s : Nat) : 0 ≤ pcost k c s := by
  have h1 := psym_nonneg h s
  unfold pcost
  omega
theorem litsC_nil (C : Nat → List Int) : litsC C [] = 0 := rfl
theorem litsC_one (C : Nat → List Int) (b : UInt8) : litsC C [b] = pcost 0 (C 0) b.toNat := by simp [litsC]
theorem litsC_app (C : Nat → List Int) (xs ys : List UInt8) : litsC C (xs ++ ys) = litsC C xs + litsC C ys := by simp [litsC, List.sum_append]
theorem numC_nonneg {C : Nat → List Int} {k : Nat} (h : HistOk k (C k)) {n x : Int} (e : numC C k n = some x) : 0 ≤ x := by
  unfold numC at e
  cases hc : codeS (decide (k = 2)) n with
  | none => rw [hc] at e; cases e
  | some c =>
    rw [hc] at e
    have e : pcost k (C k) c = x := by simpa using e
    have := pcost_nonneg h c
    omega
theorem stepC_nonneg {C : Nat → List Int} (h : ∀ k, k < 4 → HistOk k (C k)) {n off x : Int} (e : stepC C n off = some x) : 0 ≤ x := by
  unfold stepC at e
  split at e
  · cases e
  · cases hb : numC C 2 (off + 3) with
    | none => rw [hb] at e; cases e
    | some b =>
      cases ha : lenC C n with
      | none => rw [hb, ha] at e; cases e
      | some a =>
        rw [hb, ha] at e
        have e : b + a = x := by simpa using e
        have h1 := numC_nonneg (h 2 (by decide)) hb
        have h2 : 0 ≤ a := by
          unfold lenC at ha
          split at ha
          · cases ha
          · exact numC_nonneg (h 3 (by decide)) ha
        omega
theorem stepsGo_shift (C : Nat → List Int) : ∀ (l : List Sq) (n d m : Int), stepsGo C n l = some m → stepsGo C (n + d) l = some (m + d) := by
  intro l
  induction l with
  | nil => intro n d m e; cases e; rfl
  | cons s r ih =>
    intro n d m e
    unfold stepsGo at e ⊢
    cases hx : stepC C s.len s.off with
    | none => rw [hx] at e; cases e
    | some x =>
      rw [hx] at e
      have h1 := ih _ d _ e
      show stepsGo C (n + d + x) r = _
      rw [← h1]
      congr 1
      omega
theorem litsGo_drop (bs : List UInt8) (m : Nat) : ∀ (q : List Sq) (a n : Int), (m : Int) ≤ a → planEnd a q = some n → litsGo bs a q = litsGo (bs.drop m) (a - m) q := by
  intro q
  induction q with
  | nil => intro a n _ _; rfl
  | cons s r ih =>
    intro a n ha e
    unfold planEnd at e
    split at e
    · rename_i hb
      have h1 := linB_in hb
      simp only [litsGo]
      rw [ih _ n (by omega) e, List.drop_drop, show m + (a - (m : Int)).toNat = a.toNat from by omega, show a - (m : Int) + s.lit + s.len = a + s.lit + s.len - (m : Int) from by omega]
    · cases e
end Go.Port
namespace Go.Proofs.YtlgablepckmogaaGreat
open Go.RowKit Go.Port
end Go.Proofs.YtlgablepckmogaaGreat
namespace Go.Port
open Go.RowKit Go.Proofs.YtlgablepckmogaaGreat
/-- The argument of least value, the first of them, and that value. -/
def leastP (of : Sq → Int) (x0 : Sq) (l : List Sq) : Sq × Int := l.foldl (fun p y => if of y < p.2 then (y, of y) else p) (x0, of x0)
theorem leastP_snoc (of : Sq → Int) (x0 y : Sq) (l : List Sq) : leastP of x0 (l ++ [y]) = if of y < (leastP of x0 l).2 then (y, of y) else leastP of x0 l := by
  unfold leastP
  rw [List.foldl_append]
  rfl
theorem leastP_go (of : Sq → Int) : ∀ (l : List Sq) (p : Sq × Int), p.2 = of p.1 → ∀ q, q = l.foldl (fun p y => if of y < p.2 then (y, of y) else p) p → (q.1 = p.1 ∨ q.1 ∈ l) ∧ q.2 = of q.1 ∧ q.2 ≤ p.2 ∧ (∀ y ∈ l, q.2 ≤ of y) ∧ q.2 = l.foldl (fun m y => min m (of y)) p.2 := by
  intro l
  induction l with
  | nil => intro p hp q hq; subst hq; exact ⟨.inl rfl, hp, Int.le_refl _, fun y hy => (by cases hy), rfl⟩
  | cons y r ih =>
    intro p hp q hq
    rw [List.foldl_cons] at hq
    rw [List.foldl_cons]
    by_cases h : of y < p.2
    · rw [if_pos h] at hq
      obtain ⟨h1, h2, h3, h4, h5⟩ := ih (y, of y) rfl q hq
      dsimp only at h1 h3 h5
      rw [show min p.2 (of y) = of y from by omega]
      refine ⟨.inr (h1.elim (fun h => by rw [h]; simp) (List.mem_cons_of_mem _)), h2, by omega, fun z hz => ?_, h5⟩
      rcases List.mem_cons.1 hz with rfl | hz
      · exact h3
      · exact h4 z hz
    · rw [if_neg h] at hq
      obtain ⟨h1, h2, h3, h4, h5⟩ := ih p hp q hq
      rw [show min p.2 (of y) = p.2 from by omega]
      refine ⟨h1.elim .inl (fun h => .inr (List.mem_cons_of_mem _ h)), h2, h3, fun z hz => ?_, h5⟩
      rcases List.mem_cons.1 hz with rfl | hz
      · omega
      · exact h4 z hz
theorem leastP_all (of : Sq → Int) (x0 : Sq) (l : List Sq) : ((leastP of x0 l).1 = x0 ∨ (leastP of x0 l).1 ∈ l) ∧ (leastP of x0 l).2 = of (leastP of x0 l).1 ∧ (leastP of x0 l).2 ≤ of x0 ∧ (∀ y ∈ l, (leastP of x0 l).2 ≤ of y) ∧ (leastP of x0 l).2 = l.foldl (fun m y => min m (of y)) (of x0) :=
  leastP_go of l (x0, of x0) rfl _ rfl
/-- The costs of a table, that from the end behind them. -/
def costsL (t : List (Sq × Int)) : List Int := t.map (·.2) ++ [0]
def costAt (t : List (Sq × Int)) (j : Nat) : Int := (costsL t).getD j 0
/-- What a choice costs at an index. -/
def ofS (C : Nat → List Int) (data : List UInt8) (i : Nat) (t : List (Sq × Int)) (s : Sq) : Int :=
  if s.len = 0 then litsC C [data.getD i 0] + costAt t 0 else (stepC C s.len s.off).getD 0 + costAt t (s.len - 1).toNat
/-- The table: of the last r indices. -/
def tab (C : Nat → List Int) (data : List UInt8) (ch : Int → List Sq) (n : Nat) : Nat → List (Sq × Int)
  | 0 => []
  | r + 1 => leastP (ofS C data (n - (r + 1)) (tab C data ch n r)) ⟨0, 0, 0⟩ (ch ((n - (r + 1) : Nat) : Int)) :: tab C data ch n r
/-- The plan of a table. -/
def planT : List (Sq × Int) → Nat → Int → List Sq
  | [], _, _ => []
  | _ :: r, k + 1, lit => planT r k lit
  | (s, _) :: r, 0, lit => if s.len = 0 then planT r 0 (lit + 1) else ⟨lit, s.len, s.off⟩ :: planT r (s.len - 1).toNat 0
theorem planT_drop : ∀ (t : List (Sq × Int)) (k : Nat) (lit : Int), planT t k lit = planT (t.drop k) 0 lit := by
  intro t
  induction t with
  | nil => intro k lit; cases k <;> rfl
  | cons x r ih =>
    intro k lit
    cases k with
    | zero => rfl
    | succ k => exact ih k lit
/-- Choices within the data. -/
structure Choices (n : Nat) (ch : Int → List Sq) : Prop where
  inn : ∀ (i : Int), ∀ s ∈ ch i, 0 ≤ i ∧ s.lit = 0 ∧ 3 ≤ s.len ∧ i + s.len ≤ n ∧ 1 ≤ s.off ∧ s.off ≤ 134217728
/-- The plan of a path. -/
def isPath (ch : Int → List Sq) (n : Int) : Int → List Sq → Bool
  | _, [] => true
  | p, s :: r => if s.lit < 0 ∨ n < p + s.lit then false else if (ch (p + s.lit)).any (fun y => y.len == s.len && y.off == s.off) then isPath ch n (p + s.lit + s.len) r else false
section
variable (C : Nat → List Int) (data : List UInt8) (ch : Int → List Sq) (n : Nat)
theorem tab_length (r : Nat) : (tab C data ch n r).length = r := by
  induction r with
  | zero => rfl
  | succ r ih => simp only [tab, List.length_cons, ih]
theorem tab_drop (r k : Nat) : (tab C data ch n (r + k)).drop k = tab C data ch n r := by
  induction k with
  | zero => rfl
  | succ k ih => exact ih
theorem costsL_length (t : List (Sq × Int)) : (costsL t).length = t.length + 1 := by simp [costsL]
theorem costAt_tab (r j : Nat) (hj : j ≤ r) : costAt (tab C data ch n r) j = costAt (tab C data ch n (r - j)) 0 := by
  have h := tab_drop C data ch n (r - j) j
  rw [Nat.sub_add_cancel hj] at h
  rw [← h]
  unfold costAt costsL
  have hl := tab_length C data ch n r
  generalize tab C data ch n r = t at *
  simp only [List.getD_eq_getElem?_getD]
  congr 1
  rw [List.map_drop, ← List.drop_append_of_le_length (by simpa [hl] using hj), List.getElem?_drop, Nat.add_zero]
variable (hC : ∀ k, k < 4 → HistOk k (C k))
include hC
theorem lit_bounds (b : UInt8) : 0 ≤ litsC C [b] ∧ litsC C [b] ≤ 32768 := by
  rw [litsC_one]
  have h1 := pcost_bounds (hC 0 (by decide)) (s := b.toNat) (by have := b.toNat_lt; unfold symN; simpa using this)
  have h2 := pcost_nonneg (hC 0 (by decide)) b.toNat
  omega
theorem step_some {len off : Int} (h : 3 ≤ len ∧ len ≤ 131072 ∧ 1 ≤ off ∧ off ≤ 134217728) : ∃ x, stepC C len off = some x ∧ 0 ≤ x ∧ x ≤ 65536 := by
  have h1 : ∃ a, numC C 2 (off + 3) = some a := by
    obtain ⟨c, hc⟩ := codeS_far (off := off) (by omega)
    exact ⟨_, by unfold numC; rw [show decide (2 = 2) = true from rfl, hc]; rfl⟩
  have h2 : ∃ a, lenC C len = some a := by
    unfold lenC
    rw [if_neg (by omega)]
    unfold numC codeS
    rw [if_pos (by unfold eleast ebelow; simp; omega)]
    exact ⟨_, rfl⟩
  obtain ⟨a, ha⟩ := h1
  obtain ⟨b, hb⟩ := h2
  have hx : stepC C len off = some (a + b) := by
    unfold stepC
    rw [if_neg (by omega), ha, hb]
    rfl
  have := stepC_bounds hC hx
  have := stepC_nonneg hC hx
  exact ⟨_, hx, by omega, by omega⟩
theorem ofS_nonneg (i : Nat) (t : List (Sq × Int)) (s : Sq) (ht : ∀ j, 0 ≤ costAt t j) : 0 ≤ ofS C data i t s := by
  have hb := lit_bounds C hC (data.getD i 0)
  have h0 := ht 0
  have h1 := ht (s.len - 1).toNat
  unfold ofS
  split
  · omega
  · cases hs : stepC C s.len s.off with
    | none => simp only [Option.getD_none]; omega
    | some x =>
      have := stepC_nonneg hC hs
      simp only [Option.getD_some]
      omega
theorem tab_bounds (r : Nat) : ∀ j, 0 ≤ costAt (tab C data ch n r) j ∧ costAt (tab C data ch n r) j ≤ 65536 * r := by
  induction r with
  | zero =>
    intro j
    cases j with
    | zero => exact ⟨by simp [costAt, costsL, tab], by simp [costAt, costsL, tab]⟩
    | succ j => exact ⟨by simp [costAt, costsL, tab], by simp [costAt, costsL, tab]⟩
  | succ r ih =>
    intro j
    cases j with
    | succ j =>
      have := ih j
      have e : costAt (tab C data ch n (r + 1)) (j + 1) = costAt (tab C data ch n r) j := by simp [costAt, costsL, tab]
      rw [e]
      omega
    | zero =>
      have e : costAt (tab C data ch n (r + 1)) 0 = (leastP (ofS C data (n - (r + 1)) (tab C data ch n r)) ⟨0, 0, 0⟩ (ch ((n - (r + 1) : Nat) : Int))).2 := by simp [costAt, costsL, tab]
      rw [e]
      obtain ⟨h1, h2, h3, h4, _⟩ := leastP_all (ofS C data (n - (r + 1)) (tab C data ch n r)) ⟨0, 0, 0⟩ (ch ((n - (r + 1) : Nat) : Int))
      have hb := lit_bounds C hC (data.getD (n - (r + 1)) 0)
      have h0 : ofS C data (n - (r + 1)) (tab C data ch n r) ⟨0, 0, 0⟩ = litsC C [data.getD (n - (r + 1)) 0] + costAt (tab C data ch n r) 0 := by simp [ofS]
      have hi := ih 0
      refine ⟨?_, by omega⟩
      rw [h2]
      exact ofS_nonneg C data hC _ _ _ (fun j => (ih j).1)
end
theorem planEnd_up : ∀ (q : List Sq) (a d n : Int), 0 ≤ d → planEnd a q = some n → n + d ≤ 131072 → planEnd (a + d) q = some (n + d) := by
  intro q
  induction q with
  | nil => intro a d n _ e _; cases e; rfl
  | cons s r ih =>
    intro a d n hd e hn
    unfold planEnd at e ⊢
    split at e
    · rename_i hb
      have h1 := linB_in hb
      have h3 := planEnd_some r _ n e
      have h2 : linB s (a + d) = true := by
        unfold linB
        simp only [Bool.and_eq_true, decide_eq_true_eq]
        omega
      rw [if_pos h2, show a + d + s.lit + s.len = a + s.lit + s.len + d from by omega]
      exact ih _ d n hd e hn
    · cases e
/-- The cost of a plan by its first sequence. -/
theorem planO_cons {C : Nat → List Int} {bs : List UInt8} {s : Sq} {q : List Sq} {x y : Int} {P : Nat} (h0 : 0 ≤ s.lit) (h3 : 3 ≤ s.len) (hP : s.lit + s.len = P) (hn : P ≤ bs.length) (hb : bs.length ≤ 131072)
    (hq : plitsO (bs.drop P) q = true) (ho : planO C (bs.drop P) q = some y) (hx : stepC C s.len s.off = some x) :
    plitsO bs (s :: q) = true ∧ planO C bs (s :: q) = some (litsC C (bs.take s.lit.toNat) + x + y) := by
  unfold plitsO at hq
  cases he : planEnd 0 q with
  | none => rw [he] at hq; cases hq
  | some m =>
    rw [he] at hq
    have hq : m ≤ ((bs.drop P).length : Int) := by simpa using hq
    rw [List.length_drop] at hq
    have hm := planEnd_some q 0 m he
    have e1 : planEnd (P : Int) q = some (m + P) := by
      have := planEnd_up q 0 P m (by omega) he (by omega)
      rwa [Int.zero_add] at this
    have hl : linB s 0 = true := by
      unfold linB
      simp only [Bool.and_eq_true, decide_eq_true_eq]
      omega
    have e2 : planEnd 0 (s :: q) = some (m + P) := by
      unfold planEnd
      rw [if_pos hl, show (0 : Int) + s.lit + s.len = P from by omega]
      exact e1
    refine ⟨by unfold plitsO; rw [e2]; simp; omega, ?_⟩
    have e3 : lend 0 (s :: q) = m + P := by
      have := planEnd_some _ _ _ e2
      omega
    have e4 : litsGo bs (P : Int) q = litsGo (bs.drop P) 0 q := by
      have := litsGo_drop bs P q (P : Int) _ (Int.le_refl _) e1
      rwa [Int.sub_self] at this
    have e5 : litsS bs (s :: q) = bs.take s.lit.toNat ++ litsS (bs.drop P) q := by
      unfold litsS
      simp only [litsGo, Int.toNat_zero, List.drop_zero]
      rw [e3, show (0 : Int) + s.lit + s.len = P from by omega, e4, List.append_assoc, List.drop_drop, ← hm.1, show P + m.toNat = (m + (P : Int)).toNat from by omega]
    unfold planO at ho ⊢
    rw [e5, litsC_app]
    show (match stepC C s.len s.off with | some x => stepsGo C _ q | none => none) = _
    rw [hx]
    have := stepsGo_shift C q _ (litsC C (bs.take s.lit.toNat) + x) _ ho
    show stepsGo C _ q = _
    rw [show litsC C (List.take s.lit.toNat bs) + litsC C (litsS (List.drop P bs) q) + x = litsC C (litsS (List.drop P bs) q) + (litsC C (List.take s.lit.toNat bs) + x) from by omega, this]
    congr 1
    omega
theorem planO_nil (C : Nat → List Int) (bs : List UInt8) : plitsO bs [] = true ∧ planO C bs [] = some (litsC C bs) := by
  refine ⟨by unfold plitsO planEnd; simp, ?_⟩
  unfold planO stepsGo litsS litsGo lend
  simp
theorem litsC_take_one (C : Nat → List Int) {bs : List UInt8} {k : Nat} (hk : k < bs.length) : litsC C (bs.take (k + 1)) = litsC C (bs.take k) + litsC C [bs.getD k 0] := by
  rw [List.take_add_one, List.getElem?_eq_getElem hk, litsC_app, List.getD_eq_getElem?_getD, List.getElem?_eq_getElem hk]
  rfl
section
variable (C : Nat → List Int) (data : List UInt8) (ch : Int → List Sq) (hC : ∀ k, k < 4 → HistOk k (C k)) (hch : Choices data.length ch) (hn : data.length ≤ 131072)
include hC hch hn
/-- The plan of a table is a path's, and costs what the table says. -/
theorem planT_cost : ∀ (r k : Nat), r + k ≤ data.length →
    let i := data.length - r
    let l := planT (tab C data ch data.length r) 0 k
    plitsO (data.drop (i - k)) l = true ∧ planO C (data.drop (i - k)) l = some (litsC C ((data.drop (i - k)).take k) + costAt (tab C data ch data.length r) 0) ∧ isPath ch data.length ((i - k : Nat) : Int) l = true := by
  intro r
  induction r using Nat.strongRecOn with
  | _ r ih =>
    intro k hk
    dsimp only
    cases r with
    | zero =>
      have h := planO_nil C (data.drop (data.length - 0 - k))
      refine ⟨h.1, ?_, rfl⟩
      show planO C (data.drop (data.length - 0 - k)) [] = _
      rw [h.2, List.take_of_length_le (by rw [List.length_drop]; omega)]
      show _ = some (litsC C _ + 0)
      rw [Int.add_zero]
    | succ r =>
      obtain ⟨s, v, hsv⟩ : ∃ s v, leastP (ofS C data (data.length - (r + 1)) (tab C data ch data.length r)) ⟨0, 0, 0⟩ (ch ((data.length - (r + 1) : Nat) : Int)) = (s, v) := ⟨_, _, rfl⟩
      obtain ⟨h1, h2, _, _, _⟩ := leastP_all (ofS C data (data.length - (r + 1)) (tab C data ch data.length r)) ⟨0, 0, 0⟩ (ch ((data.length - (r + 1) : Nat) : Int))
      rw [hsv] at h1 h2
      dsimp only at h1 h2
      have ht : tab C data ch data.length (r + 1) = (s, v) :: tab C data ch data.length r := by rw [← hsv]; rfl
      have hc0 : costAt (tab C data ch data.length (r + 1)) 0 = v := by rw [ht]; simp [costAt, costsL]
      rw [hc0, ht]
      simp only [planT]
      by_cases hs : s.len = 0
      · rw [if_pos hs]
        have h := ih r (by omega) (k + 1) (by omega)
        dsimp only at h
        have hv : v = litsC C [data.getD (data.length - (r + 1)) 0] + costAt (tab C data ch data.length r) 0 := by rw [h2]; unfold ofS; rw [if_pos hs]
        rw [show data.length - r - (k + 1) = data.length - (r + 1) - k from by omega] at h
        rw [show (((k + 1 : Nat)) : Int) = (k : Int) + 1 from by omega] at h
        refine ⟨h.1, ?_, h.2.2⟩
        rw [h.2.1, litsC_take_one C (by rw [List.length_drop]; omega), hv, List.getD_eq_getElem?_getD, List.getElem?_drop, show data.length - (r + 1) - k + k = data.length - (r + 1) from by omega, List.getD_eq_getElem?_getD]
        congr 1
        omega
      · rw [if_neg hs]
        have hm : s ∈ ch ((data.length - (r + 1) : Nat) : Int) := by
          rcases h1 with rfl | h1
          · exact absurd rfl hs
          · exact h1
        obtain ⟨c0, c1, c2, c3, c4, c5⟩ := hch.inn _ s hm
        obtain ⟨x, hx, hx0, hx1⟩ := step_some C hC (len := s.len) (off := s.off) ⟨c2, by omega, c4, c5⟩
        obtain ⟨L, hL⟩ : ∃ L : Nat, s.len = (L : Int) := ⟨s.len.toNat, by omega⟩
        have hv : v = x + costAt (tab C data ch data.length (r - (L - 1))) 0 := by
          rw [h2]
          unfold ofS
          rw [if_neg hs, hx, hL, show ((L : Int) - 1).toNat = L - 1 from by omega, costAt_tab C data ch data.length r (L - 1) (by omega)]
          rfl
        have ht2 : planT (tab C data ch data.length r) (s.len - 1).toNat 0 = planT (tab C data ch data.length (r - (L - 1))) 0 0 := by
          rw [planT_drop, show (s.len - 1).toNat = L - 1 from by omega]
          have := tab_drop C data ch data.length (r - (L - 1)) (L - 1)
          rw [Nat.sub_add_cancel (by omega)] at this
          rw [this]
        have h := ih (r - (L - 1)) (by omega) 0 (by omega)
        dsimp only at h
        rw [List.take_zero, litsC_nil, Int.zero_add, Nat.sub_zero] at h
        rw [ht2]
        have hdd : data.drop (data.length - (r - (L - 1))) = (data.drop (data.length - (r + 1) - k)).drop (k + L) := by
          rw [List.drop_drop]
          congr 1
          omega
        have hp := planO_cons (C := C) (bs := data.drop (data.length - (r + 1) - k)) (s := ⟨k, s.len, s.off⟩) (q := planT (tab C data ch data.length (r - (L - 1))) 0 0) (x := x) (y := costAt (tab C data ch data.length (r - (L - 1))) 0) (P := k + L)
          (by dsimp only; omega) c2 (by dsimp only; omega) (by rw [List.length_drop]; omega) (by rw [List.length_drop]; omega) (by rw [← hdd]; exact h.1) (by rw [← hdd]; exact h.2.1) hx
        refine ⟨hp.1, ?_, ?_⟩
        · rw [hp.2, hv, show ((⟨(k : Int), s.len, s.off⟩ : Sq).lit).toNat = k from by simp]
          congr 1
          omega
        · unfold isPath
          rw [if_neg (by dsimp only; omega), if_pos, show (((data.length - (r + 1) - k : Nat) : Int) + (⟨(k : Int), s.len, s.off⟩ : Sq).lit + (⟨(k : Int), s.len, s.off⟩ : Sq).len) = ((data.length - (r - (L - 1)) : Nat) : Int) from by dsimp only; omega]
          · exact h.2.2
          · rw [List.any_eq_true]
            refine ⟨s, ?_, by simp⟩
            rw [show (((data.length - (r + 1) - k : Nat) : Int) + (⟨(k : Int), s.len, s.off⟩ : Sq).lit) = ((data.length - (r + 1) : Nat) : Int) from by dsimp only; omega]
            exact hm
end
end Go.Port
