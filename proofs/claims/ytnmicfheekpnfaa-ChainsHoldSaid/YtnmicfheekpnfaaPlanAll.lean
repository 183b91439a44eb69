/-
  Plain laws of layer 29: what the match found is. No program in sight.
  Plain laws of layers 30 and 31: a plan fits its data, and what it costs. No program in sight.
  Plain laws of layers 30 and 31: the rest of a plan is the plan from where its head ends. No program in sight.
  Plain laws of layers 30 and 31: the positions of a plan's matches. No program in sight.
-/
import Derived.Test.YtnmicfheekpnfaaMPlain
import Derived.Test.YtnmicfheekpnfaaMatchA
namespace Go.Port
open Go.RowKit
theorem firstGo_mem (f : Sq → Sq → Bool) (l : List Sq) : ∀ (o : Option Sq) (s : Sq), firstGo f o l = some s → o = some s ∨ s ∈ l := by
  induction l with
  | nil => intro o s h; cases o <;> exact .inl h
  | cons x l ih =>
    intro o s h
    cases o with
    | none =>
      rcases ih _ _ h with h1 | h1
      · cases h1; exact .inr (by simp)
      · exact .inr (by simp [h1])
    | some y =>
      rcases ih _ _ h with h1 | h1
      · split at h1
        · cases h1; exact .inr (by simp)
        · exact .inl h1
      · exact .inr (by simp [h1])
theorem bestS_mem {b : List UInt8} {pos most : Int} {frm : List Int} {s : Sq} (h : bestS b pos most frm = some s) : s ∈ matchesS b pos most frm ∧ 3 ≤ s.len := by
  unfold bestS at h
  cases hf : firstGo aheadB none (matchesS b pos most frm) with
  | none => rw [hf] at h; cases h
  | some t =>
    rw [hf] at h
    dsimp only at h
    split at h
    · cases h
    · cases h
      rcases firstGo_mem _ _ _ _ hf with h1 | h1
      · cases h1
      · exact ⟨h1, by omega⟩

/-- The match found: where it lies, and that its bytes are those at its offset. -/
theorem findS_is {B : List UInt8} {A : Nat} {W D p : Int} {s : Sq} (h : findS B A W D p = some s) :
    ∃ P n d : Nat, p = (P : Int) ∧ s = ⟨0, n, d⟩ ∧ 3 ≤ n ∧ 1 ≤ d ∧ d ≤ A + P ∧ (d : Int) ≤ W ∧ A + P + n ≤ B.length ∧ (∀ k, k < n → B[A + P + k]? = B[A + P + k - d]?) := by
  unfold findS at h
  split at h
  · rename_i hp
    obtain ⟨P, rfl⟩ : ∃ P : Nat, p = (P : Int) := ⟨p.toNat, by omega⟩
    rw [Int.toNat_natCast] at h
    obtain ⟨hm, h3⟩ := bestS_mem h
    obtain ⟨x, hx, he, rfl⟩ := matchesS_mem hm
    obtain ⟨q, hq, rfl⟩ := List.mem_map.1 hx
    obtain ⟨c1, c2, c3, c4⟩ := candS_mem hq
    have hl : lenS B ((A + P : Nat) : Int) (q : Int) (B.length : Int) = cpl (B.length : Int).toNat (B.drop ((A + P : Nat) : Int).toNat) (B.drop (q : Int).toNat) := by unfold lenS; rw [he]; rfl
    rw [hl] at h3 ⊢
    simp only [Int.toNat_natCast] at h3 ⊢
    have h1 := cpl_le B.length (B.drop (A + P)) (B.drop q)
    have h2 := cpl_eq B.length (B.drop (A + P)) (B.drop q)
    generalize cpl B.length (B.drop (A + P)) (B.drop q) = N at *
    rw [List.length_drop, List.length_drop] at h1
    refine ⟨P, N, A + P - q, rfl, ?_, by omega, by omega, by omega, by omega, by omega, fun k hk => ?_⟩
    · congr 1
      omega
    · have := h2 k hk
      rw [List.getElem?_drop, List.getElem?_drop] at this
      rw [this]
      congr 1
      omega
  · cases h
theorem findS_form {B : List UInt8} {A : Nat} {W D p : Int} {s : Sq} (h : findS B A W D p = some s) : s.lit = 0 ∧ 3 ≤ s.len ∧ 1 ≤ s.off ∧ 0 ≤ p ∧ p + s.len ≤ (B.length : Int) - A ∧ s.off ≤ W ∧ s.off ≤ A + p := by
  obtain ⟨P, n, d, rfl, rfl, h1, h2, h3, h4, h5, _⟩ := findS_is h
  exact ⟨rfl, (by omega : (3 : Int) ≤ n), (by omega : (1 : Int) ≤ d), (by omega : (0 : Int) ≤ P), (by omega : (P : Int) + n ≤ (B.length : Int) - A), h4, (by omega : (d : Int) ≤ A + P)⟩
theorem findS_ok {B : List UInt8} {A : Nat} {W D : Int} {least : Int} : MvOk (greedyA (findS B A W D) least) := greedyA_ok fun p s h => by
  have := findS_form h
  omega
end Go.Port
namespace Go.Port
open Go.RowKit
/-- A plan without its positions. -/
def seqsL (l : List (Int × Sq)) : List Sq := l.map (·.2)
/-- What is taken is a match within the data. -/
def ActIn (size W : Int) (act : Int → Mv) : Prop := ∀ p s, act p = .take s → s.lit = 0 ∧ 3 ≤ s.len ∧ 1 ≤ s.off ∧ s.off ≤ W ∧ p + s.len ≤ size ∧ 0 ≤ p
theorem greedy_in {B : List UInt8} {A : Nat} {W D least : Int} : ActIn ((B.length : Int) - A) W (greedyA (findS B A W D) least) := by
  intro p s h
  unfold greedyA at h
  cases hf : findS B A W D p with
  | none => rw [hf] at h; simp at h
  | some t =>
    rw [hf] at h
    simp only at h
    split at h
    · simp at h
    · simp only [Mv.take.injEq] at h
      subst h
      have := findS_form hf
      exact ⟨this.1, this.2.1, this.2.2.1, this.2.2.2.2.2.1, this.2.2.2.2.1, this.2.2.2.1⟩
theorem greedyA_take {find : Int → Option Sq} {least p : Int} {s : Sq} (h : greedyA find least p = .take s) : find p = some s ∧ least ≤ s.len := by
  unfold greedyA at h
  cases hf : find p with
  | none => rw [hf] at h; simp at h
  | some t =>
    rw [hf] at h
    simp only at h
    split at h
    · simp at h
    · simp only [Mv.take.injEq] at h
      subst h
      exact ⟨rfl, by omega⟩
theorem greedyA_go {find : Int → Option Sq} {least p n : Int} (h : greedyA find least p = .go n) : n = p + 1 ∧ ∀ s, find p = some s → s.len < least := by
  unfold greedyA at h
  cases hf : find p with
  | none => rw [hf] at h; simp only [Mv.go.injEq] at h; exact ⟨h.symm, fun s e => by cases e⟩
  | some t =>
    rw [hf] at h
    simp only at h
    split at h
    · simp only [Mv.go.injEq] at h
      exact ⟨h.symm, fun s e => by cases e; assumption⟩
    · simp at h
theorem log_off {x : Int} (h1 : 1 ≤ x) (h2 : x ≤ 134217728) : 0 ≤ logI x ∧ logI x ≤ 27 := by
  unfold logI
  refine ⟨by omega, ?_⟩
  have h : Nat.log2 x.toNat < 28 := (Nat.log2_lt (by omega)).2 (by omega)
  omega
/-- A plan costs at most 15 a sequence more than its literals alone. -/
theorem planS_cost {act : Int → Mv} {W size : Int} (hm : MvOk act) (hi : ActIn size W act) (hW : W ≤ 134217728) : ∀ (k : Nat) (p frm price : Int), size - p ≤ k → frm ≤ p → p ≤ size → (∀ q n, act q = .go n → q < size → n ≤ size) →
    ∃ r, costGoM (size - frm) price (seqsL (planS act size p frm)) = some r ∧ r ≤ price + 15 * ((planS act size p frm).length : Nat) := by
  intro k
  induction k with
  | zero =>
    intro p frm price h hf hp _
    rw [planS_end act frm (by omega)]
    exact ⟨price, rfl, by simp⟩
  | succ k ih =>
    intro p frm price h hf hp hg
    by_cases hlt : p < size
    · cases e : act p with
      | go n =>
        have := (hm p).1 n e
        have h2 := hg p n e hlt
        rw [planS_go hm frm hlt e]
        exact ih n frm price (by omega) (by omega) h2 hg
      | take s =>
        obtain ⟨h0, h1, h2, h3, h4, h5⟩ := hi p s e
        rw [planS_take hm frm hlt e]
        have hl := log_off h2 (Int.le_trans h3 hW)
        obtain ⟨r, hr, hr2⟩ := ih (p + s.len) (p + s.len) (price + (12 + logI s.off - 8 * s.len)) (by omega) (Int.le_refl _) h4 hg
        refine ⟨r, ?_, ?_⟩
        · unfold seqsL at hr ⊢
          rw [List.map_cons]
          unfold costGoM
          have hb : seqBad (size - frm) ⟨p - frm, s.len, s.off⟩ = false := by
            unfold seqBad
            simp only [Bool.or_eq_false_iff, decide_eq_false_iff_not]
            omega
          rw [hb]
          simp only [Bool.false_eq_true, if_false]
          rw [← hr]
          congr 1
          omega
        · simp only [List.length_cons]
          omega
    · rw [planS_end act frm (by omega)]
      exact ⟨price, rfl, by simp⟩
theorem greedy_goes {find : Int → Option Sq} {least size : Int} : ∀ q n, greedyA find least q = .go n → q < size → n ≤ size := by
  intro q n h hq
  have := (greedyA_go h).1
  omega
end Go.Port
namespace Go.Port
open Go.RowKit
/-- Where a plan ends that starts at a. -/
def endOf (a : Int) : List Sq → Int
  | [] => a
  | s :: r => endOf (a + s.lit + s.len) r
theorem endOf_snoc (l : List Sq) (x : Sq) : ∀ a, endOf a (l ++ [x]) = endOf a l + x.lit + x.len := by
  induction l with
  | nil => intro a; rfl
  | cons y r ih => intro a; exact ih _
theorem planS_drop {act : Int → Mv} {size W : Int} (hm : MvOk act) (hi : ActIn size W act) : ∀ (k : Nat) (p : Int), p ≤ size → k ≤ (planS act size p p).length →
    planS act size (endOf p ((seqsL (planS act size p p)).take k)) (endOf p ((seqsL (planS act size p p)).take k)) = (planS act size p p).drop k ∧ p ≤ endOf p ((seqsL (planS act size p p)).take k) ∧ endOf p ((seqsL (planS act size p p)).take k) ≤ size := by
  intro k
  induction k with
  | zero => intro p hp _; exact ⟨rfl, Int.le_refl _, hp⟩
  | succ k ih =>
    intro p hp hk
    have hs := planS_scan hm size (size - p).toNat p p (by omega)
    cases ho : scanS act size p with
    | none => rw [ho] at hs; simp only at hs; rw [hs] at hk; simp at hk
    | some y =>
      obtain ⟨q, s⟩ := y
      rw [ho] at hs
      simp only at hs
      obtain ⟨h1, h2, h3⟩ := scanS_some hm (size - p).toNat (by omega) ho
      obtain ⟨g0, g1, g2, g3, g4, g5⟩ := hi q s h3
      rw [hs] at hk ⊢
      simp only [seqsL, List.map_cons, List.take_succ_cons, List.drop_succ_cons, endOf]
      have e : p + (q - p) + s.len = q + s.len := by omega
      rw [e]
      simp only [List.length_cons] at hk
      obtain ⟨i1, i2, i3⟩ := ih (q + s.len) g4 (by omega)
      exact ⟨i1, Int.le_trans (by omega) i2, i3⟩
theorem planS_nil {act : Int → Mv} (hm : MvOk act) {size p frm : Int} (h : ∀ q s, act q ≠ .take s) : planS act size p frm = [] := by
  have hs := planS_scan hm size (size - p).toNat p frm (by omega)
  cases ho : scanS act size p with
  | none => rw [ho] at hs; exact hs
  | some y =>
    obtain ⟨q, s⟩ := y
    exact absurd (scanS_some hm (size - p).toNat (by omega) ho).2.2 (h q s)
end Go.Port
namespace Go.Port
open Go.RowKit
/-- Where the matches of a plan start. -/
def posOf (a : Int) : List Sq → List Int
  | [] => []
  | s :: r => (a + s.lit) :: posOf (a + s.lit + s.len) r
theorem posOf_length (l : List Sq) : ∀ a, (posOf a l).length = l.length := by
  induction l with
  | nil => intro a; rfl
  | cons y r ih => intro a; simp only [posOf, List.length_cons, ih]
theorem posOf_snoc (l : List Sq) (x : Sq) : ∀ a, posOf a (l ++ [x]) = posOf a l ++ [endOf a l + x.lit] := by
  induction l with
  | nil => intro a; rfl
  | cons y r ih => intro a; simp only [List.cons_append, posOf, endOf, ih]
theorem posOf_planS {act : Int → Mv} {size W : Int} (hm : MvOk act) (hi : ActIn size W act) : ∀ (k : Nat) (p : Int), size - p ≤ k → p ≤ size → posOf p (seqsL (planS act size p p)) = (planS act size p p).map (·.1) := by
  intro k
  induction k with
  | zero =>
    intro p hk hp
    rw [planS_end act p (by omega)]
    rfl
  | succ k ih =>
    intro p hk hp
    have hs := planS_scan hm size (size - p).toNat p p (by omega)
    cases ho : scanS act size p with
    | none => rw [ho] at hs; simp only at hs; rw [hs]; rfl
    | some y =>
      obtain ⟨q, s⟩ := y
      rw [ho] at hs
      simp only at hs
      obtain ⟨h1, h2, h3⟩ := scanS_some hm (size - p).toNat (by omega) ho
      obtain ⟨g0, g1, g2, g3, g4, g5⟩ := hi q s h3
      rw [hs]
      simp only [seqsL, List.map_cons, posOf]
      have e : p + (q - p) = q := by omega
      rw [e]
      have := ih (q + s.len) (by omega) g4
      unfold seqsL at this
      rw [this]
/-- All ends lie between 0 and the size. -/
theorem ends_planS {act : Int → Mv} {size W : Int} (hm : MvOk act) (hi : ActIn size W act) (h0 : 0 ≤ size) (k : Nat) (hk : k ≤ (seqsL (planS act size 0 0)).length) : 0 ≤ endOf 0 ((seqsL (planS act size 0 0)).take k) ∧ endOf 0 ((seqsL (planS act size 0 0)).take k) ≤ size :=
  (planS_drop hm hi k 0 h0 (by unfold seqsL at hk; rwa [List.length_map] at hk)).2
end Go.Port
