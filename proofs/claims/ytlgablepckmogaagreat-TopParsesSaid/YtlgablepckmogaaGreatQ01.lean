/-
  Plain laws of layer 28 (match): match lengths, the best match, the increasing matches, the cost of a plan. No program in sight. Plain laws of layers 27 and 29: the earlier positions with the same three bytes, the candidates among them, the match found. No program in sight. Plain laws of layers 29 to 31: the reference's candidates are the chain's, and plans made by moving on or taking a match. No program in sight.
-/
import Derived.WalkKit
namespace Go.Port
/-- A sequence. -/
structure Sq where
  lit : Int
  len : Int
  off : Int
deriving DecidableEq, Inhabited
def Sq.zero : Sq := ⟨0, 0, 0⟩
/-- The length of the common prefix, limited by f. -/
def cpl : Nat → List UInt8 → List UInt8 → Nat
  | f + 1, x :: a, y :: c => if x = y then cpl f a c + 1 else 0
  | _, _, _ => 0
theorem cpl_zero (a c : List UInt8) : cpl 0 a c = 0 := by cases a <;> cases c <;> rfl
theorem cpl_nil_left (f : Nat) (c : List UInt8) : cpl f [] c = 0 := by cases f <;> rfl
theorem cpl_nil_right (f : Nat) (a : List UInt8) : cpl f a [] = 0 := by cases f <;> cases a <;> rfl
theorem cpl_cons (f : Nat) (x y : UInt8) (a c : List UInt8) : cpl (f + 1) (x :: a) (y :: c) = if x = y then cpl f a c + 1 else 0 := rfl
theorem cpl_le (f : Nat) (a c : List UInt8) : cpl f a c ≤ f ∧ cpl f a c ≤ a.length ∧ cpl f a c ≤ c.length := by
  induction f generalizing a c with
  | zero => simp [cpl_zero]
  | succ f ih =>
    cases a with
    | nil => simp [cpl_nil_left]
    | cons x a =>
      cases c with
      | nil => simp [cpl_nil_right]
      | cons y c =>
        have := ih a c
        rw [cpl_cons]
        split
        · simp only [List.length_cons]; omega
        · simp
/-- The bytes of a match are equal .. -/
theorem cpl_eq (f : Nat) (a c : List UInt8) (j : Nat) (h : j < cpl f a c) : a[j]? = c[j]? := by
  induction f generalizing a c j with
  | zero => simp [cpl_zero] at h
  | succ f ih =>
    cases a with
    | nil => simp [cpl_nil_left] at h
    | cons x a =>
      cases c with
      | nil => simp [cpl_nil_right] at h
      | cons y c =>
        rw [cpl_cons] at h
        split at h
        · rename_i e
          cases j with
          | zero => simp [e]
          | succ j => simpa using ih a c j (by omega)
        · omega
/-- .. and the next ones differ, if they exist and the limit does not end the match. -/
theorem cpl_stop (f : Nat) (a c : List UInt8) (h : cpl f a c < f) (ha : cpl f a c < a.length) (hc : cpl f a c < c.length) : a[cpl f a c]? ≠ c[cpl f a c]? := by
  induction f generalizing a c with
  | zero => omega
  | succ f ih =>
    cases a with
    | nil => simp at ha
    | cons x a =>
      cases c with
      | nil => simp at hc
      | cons y c =>
        rw [cpl_cons] at *
        split
        · rename_i e
          rw [if_pos e] at h ha hc
          simp only [List.length_cons] at ha hc
          simpa using ih a c (by omega) (by omega) (by omega)
        · rename_i e
          simpa using e
def earlierB (n : Nat) (pos frm : Int) : Bool := decide (0 ≤ frm) && decide (frm < pos) && decide (pos ≤ (n : Int))
/-- The length of a match. -/
def lenS (b : List UInt8) (pos frm most : Int) : Nat :=
  if earlierB b.length pos frm then cpl most.toNat (b.drop pos.toNat) (b.drop frm.toNat) else 0
def matchesS (b : List UInt8) (pos most : Int) : List Int → List Sq
  | [] => []
  | x :: r => (if earlierB b.length pos x then [⟨0, (lenS b pos x most : Nat), pos - x⟩] else []) ++ matchesS b pos most r
theorem matchesS_append (b : List UInt8) (pos most : Int) (l r : List Int) : matchesS b pos most (l ++ r) = matchesS b pos most l ++ matchesS b pos most r := by
  induction l with
  | nil => rfl
  | cons x l ih => simp only [List.cons_append, matchesS, ih, List.append_assoc]
/-- x goes ahead of y. -/
def aheadB (x y : Sq) : Bool := decide (y.len < x.len) || (decide (x.len = y.len) && decide (x.off < y.off))
/-- The first one in an order, as the program finds it. -/
def firstGo (ahead : Sq → Sq → Bool) : Option Sq → List Sq → Option Sq
  | o, [] => o
  | none, x :: r => firstGo ahead (some x) r
  | some y, x :: r => firstGo ahead (if ahead x y then some x else some y) r
def bestS (b : List UInt8) (pos most : Int) (frm : List Int) : Option Sq :=
  match firstGo aheadB none (matchesS b pos most frm) with
  | none => none
  | some s => if s.len < 3 then none else some s
theorem matchesS_mem {b : List UInt8} {pos most : Int} {frm : List Int} {s : Sq} (h : s ∈ matchesS b pos most frm) : ∃ x ∈ frm, earlierB b.length pos x = true ∧ s = ⟨0, (lenS b pos x most : Nat), pos - x⟩ := by
  induction frm with
  | nil => cases h
  | cons x r ih =>
    simp only [matchesS, List.mem_append] at h
    rcases h with h | h
    · split at h
      · rename_i he
        exact ⟨x, by simp, he, by simpa using h⟩
      · cases h
    · obtain ⟨y, hy, h1⟩ := ih h
      exact ⟨y, by simp [hy], h1⟩
theorem matchesS_form {b : List UInt8} {pos most : Int} {frm : List Int} : ∀ s ∈ matchesS b pos most frm, s.lit = 0 ∧ 0 ≤ s.len ∧ 0 < s.off := by
  intro s hs
  obtain ⟨x, _, he, rfl⟩ := matchesS_mem hs
  simp only [earlierB, Bool.and_eq_true, decide_eq_true_eq] at he
  refine ⟨rfl, by show (0 : Int) ≤ ((_ : Nat) : Int); omega, by show (0 : Int) < pos - x; omega⟩
/-- The longer and longer ones, of a list by increasing offset. -/
def scanGo : Int → List Sq → List Sq
  | _, [] => []
  | longest, s :: r => if longest < s.len then s :: scanGo s.len r else scanGo longest r
theorem scanGo_append (n : Int) (l r : List Sq) : scanGo n (l ++ r) = scanGo n l ++ scanGo ((scanGo n l).getLastD ⟨0, n, 0⟩).len r := by
  induction l generalizing n with
  | nil => rfl
  | cons s l ih =>
    simp only [List.cons_append, scanGo]
    split
    · rw [ih, List.cons_append]
      cases h : scanGo s.len l with
      | nil => simp
      | cons y t => simp only [List.getLastD_cons]
    · exact ih n
/-- The next greater offset of a list (its least element above last), as the reference looks for it. -/
def nextGo (l : List Sq) (last : Int) : Option Sq → List Sq → Option Sq
  | o, [] => o
  | none, x :: r => nextGo l last (if last < x.off then some x else none) r
  | some y, x :: r => nextGo l last (if last < x.off ∧ x.off < y.off then some x else some y) r
def riseGo : Nat → List Sq → Int → Int → List Sq
  | 0, _, _, _ => []
  | f + 1, l, last, longest =>
    match nextGo l last none l with
    | none => []
    | some x => if longest < x.len then ⟨0, x.len, x.off⟩ :: riseGo f l x.off x.len else riseGo f l x.off longest
/-- The next greater one is the least one above last. -/
theorem nextGo_spec (l0 : List Sq) (last : Int) (l : List Sq) : ∀ o : Option Sq, (∀ y, o = some y → last < y.off) →
    (nextGo l0 last o l = none → o = none ∧ ∀ x ∈ l, x.off ≤ last) ∧
    (∀ y, nextGo l0 last o l = some y → (o = some y ∨ y ∈ l) ∧ last < y.off ∧ (∀ z, o = some z → y.off ≤ z.off) ∧ ∀ x ∈ l, last < x.off → y.off ≤ x.off) := by
  induction l with
  | nil =>
    intro o ho
    refine ⟨fun h => ?_, fun y h => ?_⟩
    · cases o <;> simp_all [nextGo]
    · have : o = some y := by
        cases o
        · simp [nextGo] at h
        · simpa [nextGo] using h
      subst this
      exact ⟨.inl rfl, ho y rfl, fun z hz => by cases hz; exact Int.le_refl _, fun x hx => by cases hx⟩
  | cons x l ih =>
    intro o ho
    cases o with
    | none =>
      have h := ih (if last < x.off then some x else none) (fun y hy => by split at hy <;> simp_all)
      refine ⟨fun hn => ?_, fun y hy => ?_⟩
      · obtain ⟨h1, h2⟩ := h.1 hn
        refine ⟨rfl, fun z hz => ?_⟩
        rcases List.mem_cons.1 hz with rfl | hz
        · split at h1
          · cases h1
          · omega
        · exact h2 z hz
      · obtain ⟨h1, h2, h3, h4⟩ := h.2 y hy
        refine ⟨.inr ?_, h2, (fun z hz => by cases hz), fun z hz hl => ?_⟩
        · rcases h1 with h1 | h1
          · split at h1
            · cases h1; simp
            · cases h1
          · simp [h1]
        · rcases List.mem_cons.1 hz with rfl | hz
          · exact h3 z (by rw [if_pos hl])
          · exact h4 z hz hl
    | some w =>
      have hw := ho w rfl
      have h := ih (if last < x.off ∧ x.off < w.off then some x else some w) (fun y hy => by split at hy <;> (cases hy; omega))
      refine ⟨fun hn => ?_, fun y hy => ?_⟩
      · obtain ⟨h1, _⟩ := h.1 hn
        split at h1 <;> cases h1
      · obtain ⟨h1, h2, h3, h4⟩ := h.2 y hy
        refine ⟨?_, h2, fun z hz => ?_, fun z hz hl => ?_⟩
        · rcases h1 with h1 | h1
          · split at h1
            · cases h1; right; simp
            · left; exact h1
          · right; simp [h1]
        · cases hz
          split at h3
          · have := h3 x rfl
            omega
          · exact h3 w rfl
        · rcases List.mem_cons.1 hz with rfl | hz
          · by_cases hc : last < z.off ∧ z.off < w.off
            · exact h3 z (by rw [if_pos hc])
            · have := h3 w (by rw [if_neg hc])
              omega
          · exact h4 z hz hl
/-- Elements of one offset are one. -/
def OffInj (l : List Sq) : Prop := ∀ x ∈ l, ∀ y ∈ l, x.off = y.off → x = y
def ByOff (l : List Sq) : Prop := l.Pairwise fun x y => x.off ≤ y.off
/-- What the reference does on a list is a scan of the sorted one. -/
theorem rise_scan (l0 : List Sq) (hl0 : ∀ x ∈ l0, x.lit = 0) (hinj : OffInj l0) : ∀ (f : Nat) (r : List Sq) (last longest : Int), ByOff r → r.length < f →
    (∀ x ∈ r, x ∈ l0) → (∀ x ∈ l0, last < x.off → x ∈ r) → (∀ x ∈ r, x.off ≤ last → x.len ≤ longest) →
    riseGo f l0 last longest = scanGo longest r := by
  intro f
  induction f with
  | zero => intro r last longest _ h; omega
  | succ f ih =>
    intro r last longest hs hf hr hl hle
    have hn := nextGo_spec l0 last l0 none (fun y hy => by cases hy)
    -- what lies at or below last is passed over by the scan
    induction r with
    | nil =>
      unfold riseGo
      cases he : nextGo l0 last none l0 with
      | none => rfl
      | some y =>
        obtain ⟨h1, h2, _, _⟩ := hn.2 y he
        have := hl y (by simpa using h1) h2
        cases this
    | cons x r ihr =>
      have hsx := List.pairwise_cons.1 hs
      by_cases hx : x.off ≤ last
      · have := hle x (by simp) hx
        rw [scanGo, if_neg (by omega)]
        exact ihr hsx.2 (by simp at hf; omega) (fun y hy => hr y (by simp [hy])) (fun y hy hy' => by
          rcases List.mem_cons.1 (hl y hy hy') with rfl | h
          · omega
          · exact h) (fun y hy => hle y (by simp [hy]))
      · unfold riseGo
        cases he : nextGo l0 last none l0 with
        | none =>
          have := (hn.1 he).2 x (hr x (by simp))
          omega
        | some y =>
          obtain ⟨h1, h2, _, h4⟩ := hn.2 y he
          have hy0 : y ∈ l0 := by simpa using h1
          have hyx : y = x := by
            have a := h4 x (hr x (by simp)) (by omega)
            have b : x.off ≤ y.off := by
              rcases List.mem_cons.1 (hl y hy0 h2) with rfl | h
              · exact Int.le_refl _
              · exact hsx.1 y h
            exact hinj y hy0 x (hr x (by simp)) (by omega)
          subst hyx
          have hlit : (⟨0, y.len, y.off⟩ : Sq) = y := by
            have := hl0 y hy0
            cases y; simp_all
          have hrest : ∀ L, (L = y.len ∧ longest < y.len ∨ L = longest ∧ y.len ≤ longest) → riseGo f l0 y.off L = scanGo L r := by
            intro L hL
            refine ih r y.off L hsx.2 (by simp at hf; omega) (fun z hz => hr z (by simp [hz])) (fun z hz hz' => ?_) (fun z hz hz' => ?_)
            · rcases List.mem_cons.1 (hl z hz (by omega)) with rfl | h
              · omega
              · exact h
            · have := hsx.1 z hz
              have e := hinj z (hr z (by simp [hz])) y (hr y (by simp)) (by omega)
              subst e
              omega
          dsimp only
          rw [scanGo, hlit]
          split
          · rw [hrest _ (.inl ⟨rfl, by assumption⟩)]
          · rw [hrest _ (.inr ⟨rfl, by omega⟩)]
theorem matchesS_inj (b : List UInt8) (pos most : Int) (frm : List Int) : OffInj (matchesS b pos most frm) := by
  intro x hx y hy h
  obtain ⟨u, _, _, rfl⟩ := matchesS_mem hx
  obtain ⟨v, _, _, rfl⟩ := matchesS_mem hy
  have : u = v := by
    have h' : pos - u = pos - v := h
    omega
  subst this
  rfl
/-- The increasing matches: of whatever sorted arrangement. -/
theorem rise_eq (b : List UInt8) (pos most : Int) (frm : List Int) (l : List Sq) (hp : l.Perm (matchesS b pos most frm)) (hs : ByOff l) (f : Nat) (hf : l.length < f) :
    riseGo f (matchesS b pos most frm) 0 2 = scanGo 2 l := by
  refine rise_scan _ (fun x hx => (matchesS_form x hx).1) (matchesS_inj b pos most frm) f l 0 2 hs hf (fun x hx => hp.mem_iff.1 hx) (fun x hx _ => hp.mem_iff.2 hx) (fun x hx h0 => ?_)
  have := (matchesS_form x (hp.mem_iff.1 hx)).2.2
  omega
def incS (b : List UInt8) (pos most : Int) (frm : List Int) : List Sq := riseGo (frm.length + 1) (matchesS b pos most frm) 0 2
def logI (n : Int) : Int := (Nat.log2 n.toNat : Nat)
/-- What is wrong with a sequence, left bytes being left. -/
def seqBad (left : Int) (s : Sq) : Bool := decide (s.lit < 0) || decide (s.len < 3) || decide (s.off < 1) || decide (left < s.lit) || decide (left - s.lit < s.len)
def costGoM : Int → Int → List Sq → Option Int
  | _, price, [] => some price
  | left, price, s :: r => if seqBad left s then none else costGoM (left - (s.lit + s.len)) (price + (12 + logI s.off - 8 * s.len)) r
def costM (size : Int) (l : List Sq) : Option Int := if size < 0 then none else costGoM size (8 * size) l
end Go.Port
namespace Go.Port
/-- The key of a position: its three bytes. -/
abbrev Key3 : Type := UInt8 × UInt8 × UInt8
def key3 (B : List UInt8) (p : Nat) : Key3 := (B.getD p 0, B.getD (p + 1) 0, B.getD (p + 2) 0)
/-- The positions below n with a key, the last one first. -/
def hitsGo (B : List UInt8) (K : Key3) : Nat → List Nat
  | 0 => []
  | n + 1 => if key3 B n = K then n :: hitsGo B K n else hitsGo B K n
def hits (B : List UInt8) (p : Nat) : List Nat := hitsGo B (key3 B p) p
/-- The last earlier position with the same key, or -1. -/
def prevI (B : List UInt8) (p : Nat) : Int := match (hits B p).head? with
  | some q => (q : Int)
  | none => -1
/-- .. for the first n positions. -/
def prevL (B : List UInt8) (n : Nat) : List Int := (List.range n).map (prevI B)
theorem prevL_succ (B : List UInt8) (n : Nat) : prevL B (n + 1) = prevL B n ++ [prevI B n] := by
  unfold prevL
  rw [List.range_succ, List.map_append]
  rfl
theorem prevL_get {B : List UInt8} {n p : Nat} (h : p < n) : (prevL B n)[p]? = some (prevI B p) := by
  unfold prevL
  rw [List.getElem?_map, List.getElem?_range h]
  rfl
theorem hitsGo_lt (B : List UInt8) (K : Key3) (n p : Nat) (h : p ∈ hitsGo B K n) : p < n ∧ key3 B p = K := by
  induction n with
  | zero => simp [hitsGo] at h
  | succ n ih =>
    unfold hitsGo at h
    split at h
    · rename_i e
      rcases List.mem_cons.1 h with rfl | h
      · exact ⟨Nat.lt_succ_self _, e⟩
      · have := ih h
        exact ⟨by omega, this.2⟩
    · have := ih h
      exact ⟨by omega, this.2⟩
theorem hitsGo_cons {B : List UInt8} {K : Key3} {n p : Nat} {r : List Nat} (h : hitsGo B K n = p :: r) : p < n ∧ key3 B p = K ∧ r = hitsGo B K p := by
  induction n with
  | zero => simp [hitsGo] at h
  | succ n ih =>
    unfold hitsGo at h
    split at h
    · rename_i e
      simp only [List.cons.injEq] at h
      obtain ⟨rfl, rfl⟩ := h
      exact ⟨Nat.lt_succ_self _, e, rfl⟩
    · have := ih h
      exact ⟨by omega, this.2⟩
/-- The chain of last earlier positions. -/
theorem hits_cons {B : List UInt8} {n p : Nat} {r : List Nat} (h : hits B n = p :: r) : p < n ∧ prevI B n = (p : Int) ∧ r = hits B p := by
  obtain ⟨h1, h2, h3⟩ := hitsGo_cons h
  refine ⟨h1, ?_, ?_⟩
  · unfold prevI
    rw [h]
    rfl
  · unfold hits
    rw [h2]
    exact h3
theorem hitsGo_length (B : List UInt8) (K : Key3) (n : Nat) : (hitsGo B K n).length ≤ n := by
  induction n with
  | zero => simp [hitsGo]
  | succ n ih =>
    unfold hitsGo
    split
    · simp; omega
    · omega
theorem prevI_bound (B : List UInt8) (n : Nat) : -1 ≤ prevI B n ∧ prevI B n < n := by
  unfold prevI
  cases h : (hits B n).head? with
  | none => simp; omega
  | some q =>
    have := hitsGo_lt B _ n q (List.mem_of_mem_head? h)
    simp only
    omega
/-- The candidates: the first ones of a chain, while they are near and few enough. -/
def candGo (own : Nat) (W : Int) : Int → List Nat → List Nat
  | _, [] => []
  | D, p :: r => if 0 < D ∧ ((own : Int) - (p : Int)) ≤ W then p :: candGo own W (D - 1) r else []
def candS (B : List UInt8) (own : Nat) (W D : Int) : List Nat := if own + 3 ≤ B.length then candGo own W D (hits B own) else []
theorem candGo_mem {own : Nat} {W : Int} {l : List Nat} : ∀ {D : Int} {p : Nat}, p ∈ candGo own W D l → p ∈ l ∧ (own : Int) - (p : Int) ≤ W := by
  induction l with
  | nil => intro D p h; simp [candGo] at h
  | cons q r ih =>
    intro D p h
    unfold candGo at h
    split at h
    · rename_i hc
      rcases List.mem_cons.1 h with rfl | h
      · exact ⟨List.mem_cons_self, hc.2⟩
      · have := ih h
        exact ⟨List.mem_cons_of_mem _ this.1, this.2⟩
    · simp at h
theorem candGo_length {own : Nat} {W : Int} {l : List Nat} : ∀ {D : Int}, (candGo own W D l).length ≤ l.length ∧ (0 ≤ D → ((candGo own W D l).length : Int) ≤ D) := by
  induction l with
  | nil => intro D; simp [candGo]
  | cons q r ih =>
    intro D
    unfold candGo
    split
    · rename_i hc
      have := @ih (D - 1)
      have h2 := this.2 (by omega)
      simp only [List.length_cons]
      exact ⟨by omega, fun _ => by omega⟩
    · simp only [List.length_nil, List.length_cons]
      exact ⟨by omega, fun h => by simpa using h⟩
theorem candS_mem {B : List UInt8} {own : Nat} {W D : Int} {p : Nat} (h : p ∈ candS B own W D) : p < own ∧ key3 B p = key3 B own ∧ own + 3 ≤ B.length ∧ (own : Int) - (p : Int) ≤ W := by
  unfold candS at h
  split at h
  · rename_i h3
    obtain ⟨h1, h2⟩ := candGo_mem h
    have := hitsGo_lt B _ own p h1
    exact ⟨this.1, this.2, h3, h2⟩
  · simp at h
theorem candS_length (B : List UInt8) (own : Nat) (W D : Int) : (candS B own W D).length ≤ own := by
  unfold candS
  split
  · have h1 := (@candGo_length own W (hits B own) D).1
    have h2 := hitsGo_length B (key3 B own) own
    unfold hits at *
    omega
  · simp
/-- The match found at a position of the data (A bytes of history lie ahead). -/
def findS (B : List UInt8) (A : Nat) (W D : Int) (at' : Int) : Option Sq :=
  if 0 ≤ at' ∧ at' ≤ (B.length : Int) - A then bestS B (A + at'.toNat : Nat) B.length ((candS B (A + at'.toNat) W D).map fun (p : Nat) => (p : Int)) else none
end Go.Port
namespace Go.Port
/-- Nothing is left behind a distance above the window. -/
theorem candGo_far (own : Nat) (W : Int) (K : Key3) (B : List UInt8) : ∀ (n : Nat) (D : Int), W < (own : Int) + 1 - n → n ≤ own → candGo own W D (hitsGo B K n) = [] := by
  intro n
  induction n with
  | zero => intro D _ _; rfl
  | succ n ih =>
    intro D h hn
    unfold hitsGo
    split
    · unfold candGo
      rw [if_neg (by omega)]
    · exact ih D (by omega) (by omega)
theorem candGo_few (own : Nat) (W D : Int) (l : List Nat) (h : D ≤ 0) : candGo own W D l = [] := by
  cases l with
  | nil => rfl
  | cons p r => unfold candGo; rw [if_neg (by omega)]
/-- What the reference has gathered when the distance off is next. -/
def PlAt (bs : List UInt8) (own : Nat) (W D : Int) (off : Nat) (pre : List Nat) : Prop :=
  candGo own W D (hits bs own) = pre ++ candGo own W (D - pre.length) (hitsGo bs (key3 bs own) (own + 1 - off)) ∧ (∀ q ∈ pre, q < own)
theorem PlAt.skip {bs : List UInt8} {own : Nat} {W D : Int} {off : Nat} {pre : List Nat} (h : PlAt bs own W D off pre) (h2 : off ≤ own) (hk : key3 bs (own - off) ≠ key3 bs own) : PlAt bs own W D (off + 1) pre := by
  refine ⟨?_, h.2⟩
  rw [h.1]
  obtain ⟨n, hn⟩ : ∃ n, own + 1 - off = n + 1 := ⟨own - off, by omega⟩
  have hn2 : own + 1 - (off + 1) = n := by omega
  have hn3 : own - off = n := by omega
  rw [hn, hn2]
  rw [hn3] at hk
  conv => lhs; rw [hitsGo, if_neg hk]
theorem PlAt.take {bs : List UInt8} {own : Nat} {W D : Int} {off : Nat} {pre : List Nat} (h : PlAt bs own W D off pre) (h1 : 1 ≤ off) (h2 : off ≤ own) (hW : (off : Int) ≤ W) (hD : (pre.length : Int) < D) (hk : key3 bs (own - off) = key3 bs own) : PlAt bs own W D (off + 1) (pre ++ [own - off]) := by
  refine ⟨?_, fun q hq => ?_⟩
  · rw [h.1]
    obtain ⟨n, hn⟩ : ∃ n, own + 1 - off = n + 1 := ⟨own - off, by omega⟩
    have hn2 : own + 1 - (off + 1) = n := by omega
    have hn3 : own - off = n := by omega
    rw [hn, hn2]
    rw [hn3] at hk ⊢
    conv => lhs; rw [hitsGo, if_pos hk, candGo, if_pos ⟨by omega, by omega⟩]
    rw [List.append_assoc]
    simp only [List.length_append, List.length_cons, List.length_nil, List.singleton_append]
    congr 3
    omega
  · rcases List.mem_append.1 hq with hq | hq
    · exact h.2 q hq
    · have := List.mem_singleton.1 hq
      omega
theorem PlAt.stop {bs : List UInt8} {own : Nat} {W D : Int} {off : Nat} {pre : List Nat} (h : PlAt bs own W D off pre) (h1 : 1 ≤ off) (hs : ¬ ((off : Int) ≤ W ∧ off ≤ own ∧ (pre.length : Int) < D)) : candGo own W D (hits bs own) = pre := by
  rw [h.1]
  suffices candGo own W (D - pre.length) (hitsGo bs (key3 bs own) (own + 1 - off)) = [] by rw [this, List.append_nil]
  by_cases hD : (pre.length : Int) < D
  · by_cases ho : off ≤ own
    · exact candGo_far own W _ bs _ _ (by omega) (by omega)
    · have : own + 1 - off = 0 := by omega
      rw [this]
      rfl
  · exact candGo_few _ _ _ _ (by omega)
/-- What is done at a position: move on, or take a match. -/
inductive Mv where
  | go (n : Int)
  | take (s : Sq)
/-- Moves lead on, and matches are not empty. -/
def MvOk (act : Int → Mv) : Prop := ∀ p, (∀ n, act p = .go n → p < n) ∧ ∀ s, act p = .take s → 1 ≤ s.len
/-- The plan from a position, with the positions of its matches; f bounds the number of moves. -/
def planGo (act : Int → Mv) (size : Int) : Nat → Int → Int → List (Int × Sq)
  | 0, _, _ => []
  | f + 1, p, frm => if p < size then match act p with
    | .go n => planGo act size f n frm
    | .take s => (p, ⟨p - frm, s.len, s.off⟩) :: planGo act size f (p + s.len) (p + s.len) else []
theorem planGo_fuel {act : Int → Mv} (hm : MvOk act) (size : Int) : ∀ (f g : Nat) (p frm : Int), size - p ≤ f → size - p ≤ g → planGo act size f p frm = planGo act size g p frm := by
  intro f
  induction f with
  | zero =>
    intro g p frm hf _
    cases g with
    | zero => rfl
    | succ g => unfold planGo; rw [if_neg (by omega)]
  | succ f ih =>
    intro g p frm hf hg
    cases g with
    | zero => unfold planGo; rw [if_neg (by omega)]
    | succ g =>
      unfold planGo
      split
      · have h := hm p
        cases e : act p with
        | go n => exact ih g n frm (by have := h.1 n e; omega) (by have := h.1 n e; omega)
        | take s =>
          have h2 := h.2 s e
          simp only
          rw [ih g (p + s.len) (p + s.len) (by omega) (by omega)]
      · rfl
def planS (act : Int → Mv) (size p frm : Int) : List (Int × Sq) := planGo act size (size - p).toNat p frm
theorem planS_end (act : Int → Mv) {size p : Int} (frm : Int) (h : size ≤ p) : planS act size p frm = [] := by
  have : (size - p).toNat = 0 := by omega
  unfold planS
  rw [this]
  rfl
theorem planS_go {act : Int → Mv} (hm : MvOk act) {size p n : Int} (frm : Int) (h : p < size) (e : act p = .go n) : planS act size p frm = planS act size n frm := by
  unfold planS
  obtain ⟨k, hk⟩ : ∃ k, (size - p).toNat = k + 1 := ⟨(size - p).toNat - 1, by omega⟩
  rw [hk]
  conv => lhs; rw [planGo, if_pos h]
  rw [e]
  have := (hm p).1 n e
  exact planGo_fuel hm size _ _ _ _ (by omega) (by omega)
theorem planS_take {act : Int → Mv} (hm : MvOk act) {size p : Int} {s : Sq} (frm : Int) (h : p < size) (e : act p = .take s) : planS act size p frm = (p, ⟨p - frm, s.len, s.off⟩) :: planS act size (p + s.len) (p + s.len) := by
  unfold planS
  obtain ⟨k, hk⟩ : ∃ k, (size - p).toNat = k + 1 := ⟨(size - p).toNat - 1, by omega⟩
  rw [hk]
  conv => lhs; rw [planGo, if_pos h]
  rw [e]
  have := (hm p).2 s e
  simp only
  rw [planGo_fuel hm size k (size - (p + s.len)).toNat _ _ (by omega) (by omega)]
/-- The next match from a position on. -/
def scanGo' (act : Int → Mv) (size : Int) : Nat → Int → Option (Int × Sq)
  | 0, _ => none
  | f + 1, p => if p < size then match act p with
    | .go n => scanGo' act size f n
    | .take s => some (p, s) else none
theorem scanGo'_fuel {act : Int → Mv} (hm : MvOk act) (size : Int) : ∀ (f g : Nat) (p : Int), size - p ≤ f → size - p ≤ g → scanGo' act size f p = scanGo' act size g p := by
  intro f
  induction f with
  | zero =>
    intro g p hf _
    cases g with
    | zero => rfl
    | succ g => unfold scanGo'; rw [if_neg (by omega)]
  | succ f ih =>
    intro g p hf hg
    cases g with
    | zero => unfold scanGo'; rw [if_neg (by omega)]
    | succ g =>
      unfold scanGo'
      split
      · have h := hm p
        cases e : act p with
        | go n => exact ih g n (by have := h.1 n e; omega) (by have := h.1 n e; omega)
        | take s => rfl
      · rfl
def scanS (act : Int → Mv) (size p : Int) : Option (Int × Sq) := scanGo' act size (size - p).toNat p
theorem scanS_end (act : Int → Mv) {size p : Int} (h : size ≤ p) : scanS act size p = none := by
  have : (size - p).toNat = 0 := by omega
  unfold scanS
  rw [this]
  rfl
theorem scanS_go {act : Int → Mv} (hm : MvOk act) {size p n : Int} (h : p < size) (e : act p = .go n) : scanS act size p = scanS act size n := by
  unfold scanS
  obtain ⟨k, hk⟩ : ∃ k, (size - p).toNat = k + 1 := ⟨(size - p).toNat - 1, by omega⟩
  rw [hk]
  conv => lhs; rw [scanGo', if_pos h]
  rw [e]
  have := (hm p).1 n e
  exact scanGo'_fuel hm size _ _ _ (by omega) (by omega)
theorem scanS_take {act : Int → Mv} {size p : Int} {s : Sq} (h : p < size) (e : act p = .take s) : scanS act size p = some (p, s) := by
  unfold scanS
  obtain ⟨k, hk⟩ : ∃ k, (size - p).toNat = k + 1 := ⟨(size - p).toNat - 1, by omega⟩
  rw [hk]
  rw [scanGo', if_pos h, e]
/-- A plan is one match and the plan behind it. -/
theorem planS_scan {act : Int → Mv} (hm : MvOk act) (size : Int) : ∀ (k : Nat) (p frm : Int), size - p ≤ k →
    planS act size p frm = match scanS act size p with
      | none => []
      | some (q, s) => (q, ⟨q - frm, s.len, s.off⟩) :: planS act size (q + s.len) (q + s.len) := by
  intro k
  induction k with
  | zero =>
    intro p frm h
    rw [planS_end act frm (by omega), scanS_end act (by omega)]
  | succ k ih =>
    intro p frm h
    by_cases hp : p < size
    · cases e : act p with
      | go n =>
        have := (hm p).1 n e
        rw [planS_go hm frm hp e, scanS_go hm hp e]
        exact ih n frm (by omega)
      | take s => rw [planS_take hm frm hp e, scanS_take hp e]
    · rw [planS_end act frm (by omega), scanS_end act (by omega)]
theorem scanS_some {act : Int → Mv} (hm : MvOk act) {size : Int} : ∀ (k : Nat) {p q : Int} {s : Sq}, size - p ≤ k → scanS act size p = some (q, s) → p ≤ q ∧ q < size ∧ act q = .take s := by
  intro k
  induction k with
  | zero => intro p q s h e; rw [scanS_end act (by omega)] at e; cases e
  | succ k ih =>
    intro p q s h e
    by_cases hp : p < size
    · cases ea : act p with
      | go n =>
        have := (hm p).1 n ea
        rw [scanS_go hm hp ea] at e
        obtain ⟨h1, h2, h3⟩ := ih (by omega) e
        exact ⟨by omega, h2, h3⟩
      | take s' =>
        rw [scanS_take hp ea] at e
        cases e
        exact ⟨Int.le_refl _, hp, ea⟩
    · rw [scanS_end act (by omega)] at e
      cases e
theorem planS_length {act : Int → Mv} (hm : MvOk act) (size : Int) : ∀ (k : Nat) (p frm : Int), size - p ≤ k → ((planS act size p frm).length : Int) ≤ max 0 (size - p) := by
  intro k
  induction k with
  | zero => intro p frm h; rw [planS_end act frm (by omega)]; simp; omega
  | succ k ih =>
    intro p frm h
    by_cases hp : p < size
    · cases e : act p with
      | go n =>
        have := (hm p).1 n e
        rw [planS_go hm frm hp e]
        have := ih n frm (by omega)
        omega
      | take s =>
        have := (hm p).2 s e
        rw [planS_take hm frm hp e]
        have := ih (p + s.len) (p + s.len) (by omega)
        simp only [List.length_cons]
        omega
    · rw [planS_end act frm (by omega)]; simp; omega
/-- What greedy parsing does. -/
def greedyA (find : Int → Option Sq) (least : Int) : Int → Mv := fun p => match find p with
  | some s => if s.len < least then .go (p + 1) else .take s
  | none => .go (p + 1)
theorem greedyA_ok {find : Int → Option Sq} {least : Int} (hf : ∀ p s, find p = some s → 1 ≤ s.len) : MvOk (greedyA find least) := by
  intro p
  unfold greedyA
  cases h : find p with
  | none => exact ⟨fun n e => by simp only [Mv.go.injEq] at e; omega, fun s e => by simp at e⟩
  | some s =>
    simp only
    split
    · exact ⟨fun n e => by simp only [Mv.go.injEq] at e; omega, fun s e => by simp at e⟩
    · exact ⟨fun n e => by simp at e, fun s' e => by simp only [Mv.take.injEq] at e; rw [← e]; exact hf p s h⟩
end Go.Port
