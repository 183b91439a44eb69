/-
  Plain laws of layers 29 to 31: the reference's candidates are the chain's, and plans made by moving on or taking a match. No program in sight.
-/
import Derived.Test.YtngphgdoolcpcaaChPlain
namespace Go.Port

/-! ### The reference's candidates -/

/-- The offsets of the candidates at a position of the data. -/
def placesS (bs : List UInt8) (A : Nat) (W D p : Int) : List Nat := if 0 ≤ p ∧ p ≤ (bs.length : Int) - A then (candS bs (A + p.toNat) W D).map fun q => A + p.toNat - q else []

/-- Nothing is left behind a distance above the window. -/
theorem candGo_far (own : Nat) (W : Int) (K : Key3) (B : List UInt8) : ∀ (n : Nat) (D : Int), W < (own : Int) + 1 - n → n ≤ own → candGo own W D (hitsGo B K n) = [] := by
  intro n
  induction n with
  | zero => intro D _ _; rfl
  | succ n ih =>
    intro D h hn
    unfold hitsGo
    split
    · unfold candGo
      rw [if_neg (by omega)]
    · exact ih D (by omega) (by omega)
theorem candGo_few (own : Nat) (W D : Int) (l : List Nat) (h : D ≤ 0) : candGo own W D l = [] := by
  cases l with
  | nil => rfl
  | cons p r => unfold candGo; rw [if_neg (by omega)]

/-- What the reference has gathered when the distance off is next. -/
def PlAt (bs : List UInt8) (own : Nat) (W D : Int) (off : Nat) (pre : List Nat) : Prop :=
  candGo own W D (hits bs own) = pre ++ candGo own W (D - pre.length) (hitsGo bs (key3 bs own) (own + 1 - off)) ∧ (∀ q ∈ pre, q < own)
theorem PlAt.start (bs : List UInt8) (own : Nat) (W D : Int) : PlAt bs own W D 1 [] := by
  refine ⟨?_, fun _ h => by simp at h⟩
  simp only [List.nil_append, List.length_nil, Nat.add_sub_cancel, hits]
  simp
theorem PlAt.skip {bs : List UInt8} {own : Nat} {W D : Int} {off : Nat} {pre : List Nat} (h : PlAt bs own W D off pre) (h2 : off ≤ own) (hk : key3 bs (own - off) ≠ key3 bs own) : PlAt bs own W D (off + 1) pre := by
  refine ⟨?_, h.2⟩
  rw [h.1]
  obtain ⟨n, hn⟩ : ∃ n, own + 1 - off = n + 1 := ⟨own - off, by omega⟩
  have hn2 : own + 1 - (off + 1) = n := by omega
  have hn3 : own - off = n := by omega
  rw [hn, hn2]
  rw [hn3] at hk
  conv => lhs; rw [hitsGo, if_neg hk]
theorem PlAt.take {bs : List UInt8} {own : Nat} {W D : Int} {off : Nat} {pre : List Nat} (h : PlAt bs own W D off pre) (h1 : 1 ≤ off) (h2 : off ≤ own) (hW : (off : Int) ≤ W) (hD : (pre.length : Int) < D) (hk : key3 bs (own - off) = key3 bs own) : PlAt bs own W D (off + 1) (pre ++ [own - off]) := by
  refine ⟨?_, fun q hq => ?_⟩
  · rw [h.1]
    obtain ⟨n, hn⟩ : ∃ n, own + 1 - off = n + 1 := ⟨own - off, by omega⟩
    have hn2 : own + 1 - (off + 1) = n := by omega
    have hn3 : own - off = n := by omega
    rw [hn, hn2]
    rw [hn3] at hk ⊢
    conv => lhs; rw [hitsGo, if_pos hk, candGo, if_pos ⟨by omega, by omega⟩]
    rw [List.append_assoc]
    simp only [List.length_append, List.length_cons, List.length_nil, List.singleton_append]
    congr 3
    omega
  · rcases List.mem_append.1 hq with hq | hq
    · exact h.2 q hq
    · have := List.mem_singleton.1 hq
      omega
theorem PlAt.stop {bs : List UInt8} {own : Nat} {W D : Int} {off : Nat} {pre : List Nat} (h : PlAt bs own W D off pre) (h1 : 1 ≤ off) (hs : ¬ ((off : Int) ≤ W ∧ off ≤ own ∧ (pre.length : Int) < D)) : candGo own W D (hits bs own) = pre := by
  rw [h.1]
  suffices candGo own W (D - pre.length) (hitsGo bs (key3 bs own) (own + 1 - off)) = [] by rw [this, List.append_nil]
  by_cases hD : (pre.length : Int) < D
  · by_cases ho : off ≤ own
    · exact candGo_far own W _ bs _ _ (by omega) (by omega)
    · have : own + 1 - off = 0 := by omega
      rw [this]
      rfl
  · exact candGo_few _ _ _ _ (by omega)

/-! ### Plans -/

/-- What is done at a position: move on, or take a match. -/
inductive Mv where
  | go (n : Int)
  | take (s : Sq)
/-- Moves lead on, and matches are not empty. -/
def MvOk (act : Int → Mv) : Prop := ∀ p, (∀ n, act p = .go n → p < n) ∧ ∀ s, act p = .take s → 1 ≤ s.len
/-- The plan from a position, with the positions of its matches; f bounds the number of moves. -/
def planGo (act : Int → Mv) (size : Int) : Nat → Int → Int → List (Int × Sq)
  | 0, _, _ => []
  | f + 1, p, frm => if p < size then match act p with
    | .go n => planGo act size f n frm
    | .take s => (p, ⟨p - frm, s.len, s.off⟩) :: planGo act size f (p + s.len) (p + s.len) else []
theorem planGo_fuel {act : Int → Mv} (hm : MvOk act) (size : Int) : ∀ (f g : Nat) (p frm : Int), size - p ≤ f → size - p ≤ g → planGo act size f p frm = planGo act size g p frm := by
  intro f
  induction f with
  | zero =>
    intro g p frm hf _
    cases g with
    | zero => rfl
    | succ g => unfold planGo; rw [if_neg (by omega)]
  | succ f ih =>
    intro g p frm hf hg
    cases g with
    | zero => unfold planGo; rw [if_neg (by omega)]
    | succ g =>
      unfold planGo
      split
      · have h := hm p
        cases e : act p with
        | go n => exact ih g n frm (by have := h.1 n e; omega) (by have := h.1 n e; omega)
        | take s =>
          have h2 := h.2 s e
          simp only
          rw [ih g (p + s.len) (p + s.len) (by omega) (by omega)]
      · rfl
def planS (act : Int → Mv) (size p frm : Int) : List (Int × Sq) := planGo act size (size - p).toNat p frm
theorem planS_end (act : Int → Mv) {size p : Int} (frm : Int) (h : size ≤ p) : planS act size p frm = [] := by
  have : (size - p).toNat = 0 := by omega
  unfold planS
  rw [this]
  rfl
theorem planS_go {act : Int → Mv} (hm : MvOk act) {size p n : Int} (frm : Int) (h : p < size) (e : act p = .go n) : planS act size p frm = planS act size n frm := by
  unfold planS
  obtain ⟨k, hk⟩ : ∃ k, (size - p).toNat = k + 1 := ⟨(size - p).toNat - 1, by omega⟩
  rw [hk]
  conv => lhs; rw [planGo, if_pos h]
  rw [e]
  have := (hm p).1 n e
  exact planGo_fuel hm size _ _ _ _ (by omega) (by omega)
theorem planS_take {act : Int → Mv} (hm : MvOk act) {size p : Int} {s : Sq} (frm : Int) (h : p < size) (e : act p = .take s) : planS act size p frm = (p, ⟨p - frm, s.len, s.off⟩) :: planS act size (p + s.len) (p + s.len) := by
  unfold planS
  obtain ⟨k, hk⟩ : ∃ k, (size - p).toNat = k + 1 := ⟨(size - p).toNat - 1, by omega⟩
  rw [hk]
  conv => lhs; rw [planGo, if_pos h]
  rw [e]
  have := (hm p).2 s e
  simp only
  rw [planGo_fuel hm size k (size - (p + s.len)).toNat _ _ (by omega) (by omega)]

/-- The next match from a position on. -/
def scanGo' (act : Int → Mv) (size : Int) : Nat → Int → Option (Int × Sq)
  | 0, _ => none
  | f + 1, p => if p < size then match act p with
    | .go n => scanGo' act size f n
    | .take s => some (p, s) else none
theorem scanGo'_fuel {act : Int → Mv} (hm : MvOk act) (size : Int) : ∀ (f g : Nat) (p : Int), size - p ≤ f → size - p ≤ g → scanGo' act size f p = scanGo' act size g p := by
  intro f
  induction f with
  | zero =>
    intro g p hf _
    cases g with
    | zero => rfl
    | succ g => unfold scanGo'; rw [if_neg (by omega)]
  | succ f ih =>
    intro g p hf hg
    cases g with
    | zero => unfold scanGo'; rw [if_neg (by omega)]
    | succ g =>
      unfold scanGo'
      split
      · have h := hm p
        cases e : act p with
        | go n => exact ih g n (by have := h.1 n e; omega) (by have := h.1 n e; omega)
        | take s => rfl
      · rfl
def scanS (act : Int → Mv) (size p : Int) : Option (Int × Sq) := scanGo' act size (size - p).toNat p
theorem scanS_end (act : Int → Mv) {size p : Int} (h : size ≤ p) : scanS act size p = none := by
  have : (size - p).toNat = 0 := by omega
  unfold scanS
  rw [this]
  rfl
theorem scanS_go {act : Int → Mv} (hm : MvOk act) {size p n : Int} (h : p < size) (e : act p = .go n) : scanS act size p = scanS act size n := by
  unfold scanS
  obtain ⟨k, hk⟩ : ∃ k, (size - p).toNat = k + 1 := ⟨(size - p).toNat - 1, by omega⟩
  rw [hk]
  conv => lhs; rw [scanGo', if_pos h]
  rw [e]
  have := (hm p).1 n e
  exact scanGo'_fuel hm size _ _ _ (by omega) (by omega)
theorem scanS_take {act : Int → Mv} {size p : Int} {s : Sq} (h : p < size) (e : act p = .take s) : scanS act size p = some (p, s) := by
  unfold scanS
  obtain ⟨k, hk⟩ : ∃ k, (size - p).toNat = k + 1 := ⟨(size - p).toNat - 1, by omega⟩
  rw [hk]
  rw [scanGo', if_pos h, e]
/-- A plan is one match and the plan behind it. -/
theorem planS_scan {act : Int → Mv} (hm : MvOk act) (size : Int) : ∀ (k : Nat) (p frm : Int), size - p ≤ k →
    planS act size p frm = match scanS act size p with
      | none => []
      | some (q, s) => (q, ⟨q - frm, s.len, s.off⟩) :: planS act size (q + s.len) (q + s.len) := by
  intro k
  induction k with
  | zero =>
    intro p frm h
    rw [planS_end act frm (by omega), scanS_end act (by omega)]
  | succ k ih =>
    intro p frm h
    by_cases hp : p < size
    · cases e : act p with
      | go n =>
        have := (hm p).1 n e
        rw [planS_go hm frm hp e, scanS_go hm hp e]
        exact ih n frm (by omega)
      | take s => rw [planS_take hm frm hp e, scanS_take hp e]
    · rw [planS_end act frm (by omega), scanS_end act (by omega)]
theorem scanS_some {act : Int → Mv} (hm : MvOk act) {size : Int} : ∀ (k : Nat) {p q : Int} {s : Sq}, size - p ≤ k → scanS act size p = some (q, s) → p ≤ q ∧ q < size ∧ act q = .take s := by
  intro k
  induction k with
  | zero => intro p q s h e; rw [scanS_end act (by omega)] at e; cases e
  | succ k ih =>
    intro p q s h e
    by_cases hp : p < size
    · cases ea : act p with
      | go n =>
        have := (hm p).1 n ea
        rw [scanS_go hm hp ea] at e
        obtain ⟨h1, h2, h3⟩ := ih (by omega) e
        exact ⟨by omega, h2, h3⟩
      | take s' =>
        rw [scanS_take hp ea] at e
        cases e
        exact ⟨Int.le_refl _, hp, ea⟩
    · rw [scanS_end act (by omega)] at e
      cases e
theorem planS_length {act : Int → Mv} (hm : MvOk act) (size : Int) : ∀ (k : Nat) (p frm : Int), size - p ≤ k → ((planS act size p frm).length : Int) ≤ max 0 (size - p) := by
  intro k
  induction k with
  | zero => intro p frm h; rw [planS_end act frm (by omega)]; simp; omega
  | succ k ih =>
    intro p frm h
    by_cases hp : p < size
    · cases e : act p with
      | go n =>
        have := (hm p).1 n e
        rw [planS_go hm frm hp e]
        have := ih n frm (by omega)
        omega
      | take s =>
        have := (hm p).2 s e
        rw [planS_take hm frm hp e]
        have := ih (p + s.len) (p + s.len) (by omega)
        simp only [List.length_cons]
        omega
    · rw [planS_end act frm (by omega)]; simp; omega

/-- What greedy parsing does. -/
def greedyA (find : Int → Option Sq) (least : Int) : Int → Mv := fun p => match find p with
  | some s => if s.len < least then .go (p + 1) else .take s
  | none => .go (p + 1)
theorem greedyA_ok {find : Int → Option Sq} {least : Int} (hf : ∀ p s, find p = some s → 1 ≤ s.len) : MvOk (greedyA find least) := by
  intro p
  unfold greedyA
  cases h : find p with
  | none => exact ⟨fun n e => by simp only [Mv.go.injEq] at e; omega, fun s e => by simp at e⟩
  | some s =>
    simp only
    split
    · exact ⟨fun n e => by simp only [Mv.go.injEq] at e; omega, fun s e => by simp at e⟩
    · exact ⟨fun n e => by simp at e, fun s' e => by simp only [Mv.take.injEq] at e; rw [← e]; exact hf p s h⟩
end Go.Port
