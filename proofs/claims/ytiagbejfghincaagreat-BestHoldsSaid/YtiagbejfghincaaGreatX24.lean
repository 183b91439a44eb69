/-
  Plain laws of layer 33 (best): the table of minimal costs, its plan, and what that plan costs.
-/
import Derived.Test.YtiagbejfghincaaGreatX02
import Derived.Test.YtiagbejfghincaaGreatX23
namespace Go.Port
open Go.RowKit Go.Proofs.YtiagbejfghincaaGreat
/-- The argument of least value, the first of them, and that value. -/
def leastP (of : Sq → Int) (x0 : Sq) (l : List Sq) : Sq × Int := l.foldl (fun p y => if of y < p.2 then (y, of y) else p) (x0, of x0)
theorem leastP_snoc (of : Sq → Int) (x0 y : Sq) (l : List Sq) : leastP of x0 (l ++ [y]) = if of y < (leastP of x0 l).2 then (y, of y) else leastP of x0 l := by
  unfold leastP
  rw [List.foldl_append]
  rfl
theorem leastP_go (of : Sq → Int) : ∀ (l : List Sq) (p : Sq × Int), p.2 = of p.1 → ∀ q, q = l.foldl (fun p y => if of y < p.2 then (y, of y) else p) p → (q.1 = p.1 ∨ q.1 ∈ l) ∧ q.2 = of q.1 ∧ q.2 ≤ p.2 ∧ (∀ y ∈ l, q.2 ≤ of y) ∧ q.2 = l.foldl (fun m y => min m (of y)) p.2 := by
  intro l
  induction l with
  | nil => intro p hp q hq; subst hq; exact ⟨.inl rfl, hp, Int.le_refl _, fun y hy => (by cases hy), rfl⟩
  | cons y r ih =>
    intro p hp q hq
    rw [List.foldl_cons] at hq
    rw [List.foldl_cons]
    by_cases h : of y < p.2
    · rw [if_pos h] at hq
      obtain ⟨h1, h2, h3, h4, h5⟩ := ih (y, of y) rfl q hq
      dsimp only at h1 h3 h5
      rw [show min p.2 (of y) = of y from by omega]
      refine ⟨.inr (h1.elim (fun h => by rw [h]; simp) (List.mem_cons_of_mem _)), h2, by omega, fun z hz => ?_, h5⟩
      rcases List.mem_cons.1 hz with rfl | hz
      · exact h3
      · exact h4 z hz
    · rw [if_neg h] at hq
      obtain ⟨h1, h2, h3, h4, h5⟩ := ih p hp q hq
      rw [show min p.2 (of y) = p.2 from by omega]
      refine ⟨h1.elim .inl (fun h => .inr (List.mem_cons_of_mem _ h)), h2, h3, fun z hz => ?_, h5⟩
      rcases List.mem_cons.1 hz with rfl | hz
      · omega
      · exact h4 z hz
theorem leastP_all (of : Sq → Int) (x0 : Sq) (l : List Sq) : ((leastP of x0 l).1 = x0 ∨ (leastP of x0 l).1 ∈ l) ∧ (leastP of x0 l).2 = of (leastP of x0 l).1 ∧ (leastP of x0 l).2 ≤ of x0 ∧ (∀ y ∈ l, (leastP of x0 l).2 ≤ of y) ∧ (leastP of x0 l).2 = l.foldl (fun m y => min m (of y)) (of x0) :=
  leastP_go of l (x0, of x0) rfl _ rfl
/-- The costs of a table, that from the end behind them. -/
def costsL (t : List (Sq × Int)) : List Int := t.map (·.2) ++ [0]
def costAt (t : List (Sq × Int)) (j : Nat) : Int := (costsL t).getD j 0
/-- What a choice costs at an index. -/
def ofS (C : Nat → List Int) (data : List UInt8) (i : Nat) (t : List (Sq × Int)) (s : Sq) : Int :=
  if s.len = 0 then litsC C [data.getD i 0] + costAt t 0 else (stepC C s.len s.off).getD 0 + costAt t (s.len - 1).toNat
/-- The table: of the last r indices. -/
def tab (C : Nat → List Int) (data : List UInt8) (ch : Int → List Sq) (n : Nat) : Nat → List (Sq × Int)
  | 0 => []
  | r + 1 => leastP (ofS C data (n - (r + 1)) (tab C data ch n r)) ⟨0, 0, 0⟩ (ch ((n - (r + 1) : Nat) : Int)) :: tab C data ch n r
/-- The plan of a table. -/
def planT : List (Sq × Int) → Nat → Int → List Sq
  | [], _, _ => []
  | _ :: r, k + 1, lit => planT r k lit
  | (s, _) :: r, 0, lit => if s.len = 0 then planT r 0 (lit + 1) else ⟨lit, s.len, s.off⟩ :: planT r (s.len - 1).toNat 0
theorem planT_drop : ∀ (t : List (Sq × Int)) (k : Nat) (lit : Int), planT t k lit = planT (t.drop k) 0 lit := by
  intro t
  induction t with
  | nil => intro k lit; cases k <;> rfl
  | cons x r ih =>
    intro k lit
    cases k with
    | zero => rfl
    | succ k => exact ih k lit
/-- Choices within the data. -/
structure Choices (n : Nat) (ch : Int → List Sq) : Prop where
  inn : ∀ (i : Int), ∀ s ∈ ch i, 0 ≤ i ∧ s.lit = 0 ∧ 3 ≤ s.len ∧ i + s.len ≤ n ∧ 1 ≤ s.off ∧ s.off ≤ 134217728
/-- The plan of a path. -/
def isPath (ch : Int → List Sq) (n : Int) : Int → List Sq → Bool
  | _, [] => true
  | p, s :: r => if s.lit < 0 ∨ n < p + s.lit then false else if (ch (p + s.lit)).any (fun y => y.len == s.len && y.off == s.off) then isPath ch n (p + s.lit + s.len) r else false
section
variable (C : Nat → List Int) (data : List UInt8) (ch : Int → List Sq) (n : Nat)
theorem tab_length (r : Nat) : (tab C data ch n r).length = r := by
  induction r with
  | zero => rfl
  | succ r ih => simp only [tab, List.length_cons, ih]
theorem tab_drop (r k : Nat) : (tab C data ch n (r + k)).drop k = tab C data ch n r := by
  induction k with
  | zero => rfl
  | succ k ih => exact ih
theorem costsL_length (t : List (Sq × Int)) : (costsL t).length = t.length + 1 := by simp [costsL]
theorem costAt_tab (r j : Nat) (hj : j ≤ r) : costAt (tab C data ch n r) j = costAt (tab C data ch n (r - j)) 0 := by
  have h := tab_drop C data ch n (r - j) j
  rw [Nat.sub_add_cancel hj] at h
  rw [← h]
  unfold costAt costsL
  have hl := tab_length C data ch n r
  generalize tab C data ch n r = t at *
  simp only [List.getD_eq_getElem?_getD]
  congr 1
  rw [List.map_drop, ← List.drop_append_of_le_length (by simpa [hl] using hj), List.getElem?_drop, Nat.add_zero]
variable (hC : ∀ k, k < 4 → HistOk k (C k))
include hC
theorem lit_bounds (b : UInt8) : 0 ≤ litsC C [b] ∧ litsC C [b] ≤ 32768 := by
  rw [litsC_one]
  have h1 := pcost_bounds (hC 0 (by decide)) (s := b.toNat) (by have := b.toNat_lt; unfold symN; simpa using this)
  have h2 := pcost_nonneg (hC 0 (by decide)) b.toNat
  omega
theorem step_some {len off : Int} (h : 3 ≤ len ∧ len ≤ 131072 ∧ 1 ≤ off ∧ off ≤ 134217728) : ∃ x, stepC C len off = some x ∧ 0 ≤ x ∧ x ≤ 65536 := by
  have h1 : ∃ a, numC C 2 (off + 3) = some a := by
    obtain ⟨c, hc⟩ := codeS_far (off := off) (by omega)
    exact ⟨_, by unfold numC; rw [show decide (2 = 2) = true from rfl, hc]; rfl⟩
  have h2 : ∃ a, lenC C len = some a := by
    unfold lenC
    rw [if_neg (by omega)]
    unfold numC codeS
    rw [if_pos (by unfold eleast ebelow; simp; omega)]
    exact ⟨_, rfl⟩
  obtain ⟨a, ha⟩ := h1
  obtain ⟨b, hb⟩ := h2
  have hx : stepC C len off = some (a + b) := by
    unfold stepC
    rw [if_neg (by omega), ha, hb]
    rfl
  have := stepC_bounds hC hx
  have := stepC_nonneg hC hx
  exact ⟨_, hx, by omega, by omega⟩
theorem ofS_nonneg (i : Nat) (t : List (Sq × Int)) (s : Sq) (ht : ∀ j, 0 ≤ costAt t j) : 0 ≤ ofS C data i t s := by
  have hb := lit_bounds C hC (data.getD i 0)
  have h0 := ht 0
  have h1 := ht (s.len - 1).toNat
  unfold ofS
  split
  · omega
  · cases hs : stepC C s.len s.off with
    | none => simp only [Option.getD_none]; omega
    | some x =>
      have := stepC_nonneg hC hs
      simp only [Option.getD_some]
      omega
theorem tab_bounds (r : Nat) : ∀ j, 0 ≤ costAt (tab C data ch n r) j ∧ costAt (tab C data ch n r) j ≤ 65536 * r := by
  induction r with
  | zero =>
    intro j
    cases j with
    | zero => exact ⟨by simp [costAt, costsL, tab], by simp [costAt, costsL, tab]⟩
    | succ j => exact ⟨by simp [costAt, costsL, tab], by simp [costAt, costsL, tab]⟩
  | succ r ih =>
    intro j
    cases j with
    | succ j =>
      have := ih j
      have e : costAt (tab C data ch n (r + 1)) (j + 1) = costAt (tab C data ch n r) j := by simp [costAt, costsL, tab]
      rw [e]
      omega
    | zero =>
      have e : costAt (tab C data ch n (r + 1)) 0 = (leastP (ofS C data (n - (r + 1)) (tab C data ch n r)) ⟨0, 0, 0⟩ (ch ((n - (r + 1) : Nat) : Int))).2 := by simp [costAt, costsL, tab]
      rw [e]
      obtain ⟨h1, h2, h3, h4, _⟩ := leastP_all (ofS C data (n - (r + 1)) (tab C data ch n r)) ⟨0, 0, 0⟩ (ch ((n - (r + 1) : Nat) : Int))
      have hb := lit_bounds C hC (data.getD (n - (r + 1)) 0)
      have h0 : ofS C data (n - (r + 1)) (tab C data ch n r) ⟨0, 0, 0⟩ = litsC C [data.getD (n - (r + 1)) 0] + costAt (tab C data ch n r) 0 := by simp [ofS]
      have hi := ih 0
      refine ⟨?_, by omega⟩
      rw [h2]
      exact ofS_nonneg C data hC _ _ _ (fun j => (ih j).1)
end
theorem planEnd_up : ∀ (q : List Sq) (a d n : Int), 0 ≤ d → planEnd a q = some n → n + d ≤ 131072 → planEnd (a + d) q = some (n + d) := by
  intro q
  induction q with
  | nil => intro a d n _ e _; cases e; rfl
  | cons s r ih =>
    intro a d n hd e hn
    unfold planEnd at e ⊢
    split at e
    · rename_i hb
      have h1 := linB_in hb
      have h3 := planEnd_some r _ n e
      have h2 : linB s (a + d) = true := by
        unfold linB
        simp only [Bool.and_eq_true, decide_eq_true_eq]
        omega
      rw [if_pos h2, show a + d + s.lit + s.len = a + s.lit + s.len + d from by omega]
      exact ih _ d n hd e hn
    · cases e
/-- The cost of a plan by its first sequence. -/
theorem planO_cons {C : Nat → List Int} {bs : List UInt8} {s : Sq} {q : List Sq} {x y : Int} {P : Nat} (h0 : 0 ≤ s.lit) (h3 : 3 ≤ s.len) (hP : s.lit + s.len = P) (hn : P ≤ bs.length) (hb : bs.length ≤ 131072)
    (hq : plitsO (bs.drop P) q = true) (ho : planO C (bs.drop P) q = some y) (hx : stepC C s.len s.off = some x) :
    plitsO bs (s :: q) = true ∧ planO C bs (s :: q) = some (litsC C (bs.take s.lit.toNat) + x + y) := by
  unfold plitsO at hq
  cases he : planEnd 0 q with
  | none => rw [he] at hq; cases hq
  | some m =>
    rw [he] at hq
    have hq : m ≤ ((bs.drop P).length : Int) := by simpa using hq
    rw [List.length_drop] at hq
    have hm := planEnd_some q 0 m he
    have e1 : planEnd (P : Int) q = some (m + P) := by
      have := planEnd_up q 0 P m (by omega) he (by omega)
      rwa [Int.zero_add] at this
    have hl : linB s 0 = true := by
      unfold linB
      simp only [Bool.and_eq_true, decide_eq_true_eq]
      omega
    have e2 : planEnd 0 (s :: q) = some (m + P) := by
      unfold planEnd
      rw [if_pos hl, show (0 : Int) + s.lit + s.len = P from by omega]
      exact e1
    refine ⟨by unfold plitsO; rw [e2]; simp; omega, ?_⟩
    have e3 : lend 0 (s :: q) = m + P := by
      have := planEnd_some _ _ _ e2
      omega
    have e4 : litsGo bs (P : Int) q = litsGo (bs.drop P) 0 q := by
      have := litsGo_drop bs P q (P : Int) _ (Int.le_refl _) e1
      rwa [Int.sub_self] at this
    have e5 : litsS bs (s :: q) = bs.take s.lit.toNat ++ litsS (bs.drop P) q := by
      unfold litsS
      simp only [litsGo, Int.toNat_zero, List.drop_zero]
      rw [e3, show (0 : Int) + s.lit + s.len = P from by omega, e4, List.append_assoc, List.drop_drop, ← hm.1, show P + m.toNat = (m + (P : Int)).toNat from by omega]
    unfold planO at ho ⊢
    rw [e5, litsC_app]
    show (match stepC C s.len s.off with | some x => stepsGo C _ q | none => none) = _
    rw [hx]
    have := stepsGo_shift C q _ (litsC C (bs.take s.lit.toNat) + x) _ ho
    show stepsGo C _ q = _
    rw [show litsC C (List.take s.lit.toNat bs) + litsC C (litsS (List.drop P bs) q) + x = litsC C (litsS (List.drop P bs) q) + (litsC C (List.take s.lit.toNat bs) + x) from by omega, this]
    congr 1
    omega
theorem planO_nil (C : Nat → List Int) (bs : List UInt8) : plitsO bs [] = true ∧ planO C bs [] = some (litsC C bs) := by
  refine ⟨by unfold plitsO planEnd; simp, ?_⟩
  unfold planO stepsGo litsS litsGo lend
  simp
theorem litsC_take_one (C : Nat → List Int) {bs : List UInt8} {k : Nat} (hk : k < bs.length) : litsC C (bs.take (k + 1)) = litsC C (bs.take k) + litsC C [bs.getD k 0] := by
  rw [List.take_add_one, List.getElem?_eq_getElem hk, litsC_app, List.getD_eq_getElem?_getD, List.getElem?_eq_getElem hk]
  rfl
section
variable (C : Nat → List Int) (data : List UInt8) (ch : Int → List Sq) (hC : ∀ k, k < 4 → HistOk k (C k)) (hch : Choices data.length ch) (hn : data.length ≤ 131072)
include hC hch hn
/-- The plan of a table is a path's, and costs what the table says. -/
theorem planT_cost : ∀ (r k : Nat), r + k ≤ data.length →
    let i := data.length - r
    let l := planT (tab C data ch data.length r) 0 k
    plitsO (data.drop (i - k)) l = true ∧ planO C (data.drop (i - k)) l = some (litsC C ((data.drop (i - k)).take k) + costAt (tab C data ch data.length r) 0) ∧ isPath ch data.length ((i - k : Nat) : Int) l = true := by
  intro r
  induction r using Nat.strongRecOn with
  | _ r ih =>
    intro k hk
    dsimp only
    cases r with
    | zero =>
      have h := planO_nil C (data.drop (data.length - 0 - k))
      refine ⟨h.1, ?_, rfl⟩
      show planO C (data.drop (data.length - 0 - k)) [] = _
      rw [h.2, List.take_of_length_le (by rw [List.length_drop]; omega)]
      show _ = some (litsC C _ + 0)
      rw [Int.add_zero]
    | succ r =>
      obtain ⟨s, v, hsv⟩ : ∃ s v, leastP (ofS C data (data.length - (r + 1)) (tab C data ch data.length r)) ⟨0, 0, 0⟩ (ch ((data.length - (r + 1) : Nat) : Int)) = (s, v) := ⟨_, _, rfl⟩
      obtain ⟨h1, h2, _, _, _⟩ := leastP_all (ofS C data (data.length - (r + 1)) (tab C data ch data.length r)) ⟨0, 0, 0⟩ (ch ((data.length - (r + 1) : Nat) : Int))
      rw [hsv] at h1 h2
      dsimp only at h1 h2
      have ht : tab C data ch data.length (r + 1) = (s, v) :: tab C data ch data.length r := by rw [← hsv]; rfl
      have hc0 : costAt (tab C data ch data.length (r + 1)) 0 = v := by rw [ht]; simp [costAt, costsL]
      rw [hc0, ht]
      simp only [planT]
      by_cases hs : s.len = 0
      · rw [if_pos hs]
        have h := ih r (by omega) (k + 1) (by omega)
        dsimp only at h
        have hv : v = litsC C [data.getD (data.length - (r + 1)) 0] + costAt (tab C data ch data.length r) 0 := by rw [h2]; unfold ofS; rw [if_pos hs]
        rw [show data.length - r - (k + 1) = data.length - (r + 1) - k from by omega] at h
        rw [show (((k + 1 : Nat)) : Int) = (k : Int) + 1 from by omega] at h
        refine ⟨h.1, ?_, h.2.2⟩
        rw [h.2.1, litsC_take_one C (by rw [List.length_drop]; omega), hv, List.getD_eq_getElem?_getD, List.getElem?_drop, show data.length - (r + 1) - k + k = data.length - (r + 1) from by omega, List.getD_eq_getElem?_getD]
        congr 1
        omega
      · rw [if_neg hs]
        have hm : s ∈ ch ((data.length - (r + 1) : Nat) : Int) := by
          rcases h1 with rfl | h1
          · exact absurd rfl hs
          · exact h1
        obtain ⟨c0, c1, c2, c3, c4, c5⟩ := hch.inn _ s hm
        obtain ⟨x, hx, hx0, hx1⟩ := step_some C hC (len := s.len) (off := s.off) ⟨c2, by omega, c4, c5⟩
        obtain ⟨L, hL⟩ : ∃ L : Nat, s.len = (L : Int) := ⟨s.len.toNat, by omega⟩
        have hv : v = x + costAt (tab C data ch data.length (r - (L - 1))) 0 := by
          rw [h2]
          unfold ofS
          rw [if_neg hs, hx, hL, show ((L : Int) - 1).toNat = L - 1 from by omega, costAt_tab C data ch data.length r (L - 1) (by omega)]
          rfl
        have ht2 : planT (tab C data ch data.length r) (s.len - 1).toNat 0 = planT (tab C data ch data.length (r - (L - 1))) 0 0 := by
          rw [planT_drop, show (s.len - 1).toNat = L - 1 from by omega]
          have := tab_drop C data ch data.length (r - (L - 1)) (L - 1)
          rw [Nat.sub_add_cancel (by omega)] at this
          rw [this]
        have h := ih (r - (L - 1)) (by omega) 0 (by omega)
        dsimp only at h
        rw [List.take_zero, litsC_nil, Int.zero_add, Nat.sub_zero] at h
        rw [ht2]
        have hdd : data.drop (data.length - (r - (L - 1))) = (data.drop (data.length - (r + 1) - k)).drop (k + L) := by
          rw [List.drop_drop]
          congr 1
          omega
        have hp := planO_cons (C := C) (bs := data.drop (data.length - (r + 1) - k)) (s := ⟨k, s.len, s.off⟩) (q := planT (tab C data ch data.length (r - (L - 1))) 0 0) (x := x) (y := costAt (tab C data ch data.length (r - (L - 1))) 0) (P := k + L)
          (by dsimp only; omega) c2 (by dsimp only; omega) (by rw [List.length_drop]; omega) (by rw [List.length_drop]; omega) (by rw [← hdd]; exact h.1) (by rw [← hdd]; exact h.2.1) hx
        refine ⟨hp.1, ?_, ?_⟩
        · rw [hp.2, hv, show ((⟨(k : Int), s.len, s.off⟩ : Sq).lit).toNat = k from by simp]
          congr 1
          omega
        · unfold isPath
          rw [if_neg (by dsimp only; omega), if_pos, show (((data.length - (r + 1) - k : Nat) : Int) + (⟨(k : Int), s.len, s.off⟩ : Sq).lit + (⟨(k : Int), s.len, s.off⟩ : Sq).len) = ((data.length - (r - (L - 1)) : Nat) : Int) from by dsimp only; omega]
          · exact h.2.2
          · rw [List.any_eq_true]
            refine ⟨s, ?_, by simp⟩
            rw [show (((data.length - (r + 1) - k : Nat) : Int) + (⟨(k : Int), s.len, s.off⟩ : Sq).lit) = ((data.length - (r + 1) : Nat) : Int) from by dsimp only; omega]
            exact hm
end
end Go.Port
