/-
  Plain laws of layer 33 (best): the candidate matches at an index.
  Plain laws on memory, of no program: a block that is known whole; a slice that reads as a list of cells; what stays when memory grows.
  Plain arithmetic of layer 5: the fixed-point logarithm, the histogram of bytes, its cost. No program in sight.
-/
import Derived.Test.YtiagbejfghincaaGreatY01
import Derived.WalkKit
import Derived.WalkSpells
import Derived.WalkLawsBesides
import Derived.Deep.QuietTactic
import Derived.BigQuiet
namespace Go.Port
open Go.RowKit
/-- Matches longer and longer, none shorter than lo. -/
def Rising : Int → List Sq → Prop
  | _, [] => True
  | lo, s :: r => lo ≤ s.len ∧ Rising (s.len + 1) r
theorem Rising.mono {lo lo' : Int} {l : List Sq} (h : Rising lo l) (hl : lo' ≤ lo) : Rising lo' l := by
  cases l with
  | nil => trivial
  | cons s r => exact ⟨by have := h.1; omega, h.2⟩
theorem rise_rising (l : List Sq) : ∀ (f : Nat) (last longest : Int), Rising (longest + 1) (riseGo f l last longest) := by
  intro f
  induction f with
  | zero => intro last longest; exact trivial
  | succ f ih =>
    intro last longest
    unfold riseGo
    split
    · exact trivial
    · split
      · exact ⟨by dsimp only; omega, ih _ _⟩
      · exact ih _ _
/-- The numbers from n on, k of them; the numbers from n to m. -/
def spanN : Int → Nat → List Int
  | _, 0 => []
  | n, k + 1 => n :: spanN (n + 1) k
def span (n m : Int) : List Int := spanN n (m + 1 - n).toNat
theorem spanN_length (n : Int) (k : Nat) : (spanN n k).length = k := by
  induction k generalizing n with
  | zero => rfl
  | succ k ih => simp [spanN, ih]
theorem spanN_app (n : Int) (a b : Nat) : spanN n (a + b) = spanN n a ++ spanN (n + a) b := by
  induction a generalizing n with
  | zero => simp [spanN]
  | succ a ih =>
    rw [show a + 1 + b = (a + b) + 1 from by omega]
    simp only [spanN, List.cons_append]
    rw [ih, show n + 1 + (a : Int) = n + ((a + 1 : Nat) : Int) from by omega]
theorem spanN_snoc (n : Int) (k : Nat) : spanN n (k + 1) = spanN n k ++ [n + k] := by
  rw [spanN_app]
  rfl
theorem span_app {n a m : Int} (h : a ≤ m) : span n m = span n a ++ span (max n (a + 1)) m := by
  unfold span
  by_cases hn : n ≤ a + 1
  · rw [show max n (a + 1) = n + ((a + 1 - n).toNat : Int) from by omega, show (m + 1 - n).toNat = (a + 1 - n).toNat + (m + 1 - (n + ((a + 1 - n).toNat : Int))).toNat from by omega, spanN_app]
  · rw [show (a + 1 - n).toNat = 0 from by omega, show max n (a + 1) = n from by omega]
    rfl
theorem span_mem {n m x : Int} (h : x ∈ span n m) : n ≤ x ∧ x ≤ m := by
  unfold span at h
  have : ∀ (k : Nat) (n x : Int), x ∈ spanN n k → n ≤ x ∧ x < n + k := by
    intro k
    induction k with
    | zero => intro n x h; simp [spanN] at h
    | succ k ih =>
      intro n x h
      simp only [spanN, List.mem_cons] at h
      rcases h with rfl | h
      · omega
      · have := ih _ _ h; omega
  have := this _ _ _ h
  omega
/-- The candidates of a list of matches, from the length n on. -/
def bGo : Int → List Sq → List Sq
  | _, [] => []
  | n, s :: r => (span n (min 64 s.len)).map (fun k => (⟨0, k, s.off⟩ : Sq)) ++ bGo (max n (min 64 s.len + 1)) r
def bN : Int → List Sq → Int
  | n, [] => n
  | n, s :: r => bN (max n (min 64 s.len + 1)) r
def bLast (l : List Sq) : Sq := l.getLastD ⟨0, 0, 0⟩
def bSteps (l : List Sq) : List Sq := bGo 3 l ++ (if 64 < (bLast l).len then [bLast l] else [])
theorem bGo_snoc (s : Sq) : ∀ (l : List Sq) (n : Int), bGo n (l ++ [s]) = bGo n l ++ (span (bN n l) (min 64 s.len)).map (fun k => (⟨0, k, s.off⟩ : Sq)) := by
  intro l
  induction l with
  | nil => intro n; simp [bGo, bN]
  | cons x r ih => intro n; simp only [List.cons_append, bGo, bN, ih, List.append_assoc]
theorem bN_snoc (s : Sq) : ∀ (l : List Sq) (n : Int), bN n (l ++ [s]) = max (bN n l) (min 64 s.len + 1) := by
  intro l
  induction l with
  | nil => intro n; rfl
  | cons x r ih => intro n; simp only [List.cons_append, bN, ih]
theorem bN_bounds : ∀ (l : List Sq) (n : Int), 3 ≤ n → n ≤ 65 → 3 ≤ bN n l ∧ bN n l ≤ 65 := by
  intro l
  induction l with
  | nil => intro n h1 h2; exact ⟨h1, h2⟩
  | cons x r ih => intro n h1 h2; exact ih _ (by omega) (by omega)
theorem bLast_snoc (l : List Sq) (s : Sq) : bLast (l ++ [s]) = s := by
  unfold bLast
  induction l with
  | nil => rfl
  | cons x r ih =>
    rw [List.cons_append, List.getLastD_cons]
    cases r with
    | nil => rfl
    | cons y t => rw [List.cons_append, List.getLastD_cons] at ih ⊢; exact ih
/-- The offset of the first match that is long enough. -/
def offAt (l : List Sq) (m : Int) : Int := match l with
  | [] => 0
  | s :: r => if m ≤ s.len then s.off else offAt r m
theorem bLast_cons2 (s t : Sq) (r : List Sq) : bLast (s :: t :: r) = bLast (t :: r) := by
  unfold bLast
  rw [List.getLastD_cons, List.getLastD_cons, List.getLastD_cons]
theorem rising_last : ∀ (l : List Sq) (lo : Int), l ≠ [] → Rising lo l → lo ≤ (bLast l).len := by
  intro l
  induction l with
  | nil => intro lo h; exact absurd rfl h
  | cons s r ih =>
    intro lo _ h
    cases r with
    | nil => exact h.1
    | cons t r =>
      rw [bLast_cons2]
      have := ih (s.len + 1) (by simp) h.2
      have := h.1
      omega
theorem bGo_off : ∀ (l : List Sq) (lo n : Int), l ≠ [] → Rising lo l → bGo n l = (span n (min 64 (bLast l).len)).map (fun m => (⟨0, m, offAt l m⟩ : Sq)) := by
  intro l
  induction l with
  | nil => intro lo n h; exact absurd rfl h
  | cons s r ih =>
    intro lo n _ h
    cases r with
    | nil =>
      have e : bLast [s] = s := rfl
      rw [e]
      simp only [bGo, List.append_nil]
      apply List.map_congr_left
      intro m hm
      have := span_mem hm
      simp only [offAt]
      rw [if_pos (by omega)]
    | cons t r =>
      rw [bLast_cons2]
      have hl := rising_last (t :: r) (s.len + 1) (by simp) h.2
      have h1 := ih (s.len + 1) (max n (min 64 s.len + 1)) (by simp) h.2
      show (span n (min 64 s.len)).map (fun k => (⟨0, k, s.off⟩ : Sq)) ++ bGo (max n (min 64 s.len + 1)) (t :: r) = _
      rw [h1, span_app (n := n) (a := min 64 s.len) (m := min 64 (bLast (t :: r)).len) (by omega), List.map_append]
      congr 1
      · apply List.map_congr_left
        intro m hm
        have := span_mem hm
        simp only [offAt]
        rw [if_pos (by omega)]
      · apply List.map_congr_left
        intro m hm
        have := span_mem hm
        show (⟨0, m, offAt (t :: r) m⟩ : Sq) = ⟨0, m, if m ≤ s.len then s.off else offAt (t :: r) m⟩
        rw [if_neg (by omega)]
theorem bGo_length : ∀ (l : List Sq) (n : Int), 3 ≤ n → ((bGo n l).length : Int) ≤ 65 - min n 65 := by
  intro l
  induction l with
  | nil => intro n h; simp only [bGo, List.length_nil]; omega
  | cons s r ih =>
    intro n h
    have h1 := ih (max n (min 64 s.len + 1)) (by omega)
    have h2 : (span n (min 64 s.len)).length = (min 64 s.len + 1 - n).toNat := by unfold span; exact spanN_length _ _
    simp only [bGo, List.length_append, List.length_map, h2]
    omega
theorem bSteps_length (l : List Sq) : (bSteps l).length ≤ 63 := by
  have h := bGo_length l 3 (by omega)
  unfold bSteps
  rw [List.length_append]
  split <;> simp only [List.length_cons, List.length_nil] <;> omega
end Go.Port
namespace Go.Port
open Go.RowKit
theorem hid {p : Prop} (h : p) : Hid p := h
/-- Block b is known whole. -/
def Blk (w : World) (b : Nat) (vs : List Value) (t : TypeId) : Prop := w.heap[b]? = some (.cells vs.toArray t (0, 0))
section
variable {w w' : World} {b : Nat} {vs : List Value} {t : TypeId}
theorem Blk.lt (h : Blk w b vs t) : b < w.heap.size := (Array.getElem?_eq_some_iff.1 h).1
theorem Blk.cell (h : Blk w b vs t) {k : Nat} {u : Value} (hk : vs[k]? = some u) : w.cell? ⟨b, k, none⟩ = some u := by
  unfold Blk at h
  simp [World.cell?, h, hk]
theorem Blk.frozen (h : Blk w b vs t) (k : Nat) : w.frozen? ⟨b, k, none⟩ = false := by
  unfold Blk at h
  simp [World.frozen?, h]
theorem Blk.below {B : Nat} (h : Blk w b vs t) (hb : Below B w w') (hlt : b < B) : Blk w' b vs t := (hb.block b hlt).trans h
theorem Blk.alloc (h : Blk w b vs t) (o : Obj) : Blk (w.alloc o) b vs t := (Below.heap_alloc w o b h.lt).trans h
theorem Blk.drew (h : Blk w b vs t) : Blk w.drew b vs t := h
theorem Blk.new (w : World) (vs : List Value) (t : TypeId) : Blk (w.alloc (.cells vs.toArray t)) w.heap.size vs t := heap_alloc_new w _
theorem Blk.other (h : Blk w b vs t) {a : Addr} (u : Value) (hne : a.block ≠ b) : Blk (w.setCell a u) b vs t :=
  (Below.heap_setCell w a u b (Ne.symm hne)).trans h
theorem Blk.set (h : Blk w b vs t) (k : Nat) (u : Value) : Blk (w.setCell ⟨b, k, none⟩ u) b (vs.set k u) t := by
  have hlt := h.lt
  have h' : w.heap[b] = .cells vs.toArray t (0, 0) := by
    unfold Blk at h
    simpa [Array.getElem?_eq_getElem hlt] using h
  unfold Blk
  show (w.heap.modify b _)[b]? = _
  rw [Array.getElem?_eq_getElem (by simpa using hlt), Array.getElem_modify_self, h']
  simp
theorem Blk.grown {row : Option Nat} (h : Blk w b vs t) (hg : w.grownBy w' row) (hne : some b ≠ row) : Blk w' b vs t := (hg.block b h.lt hne).trans h
end
/-- The value v is a slice of n elements of sz cells each; it reads as the cells cs. -/
def Sl (w : World) (sz : Nat) (v : Value) (n : Nat) (cs : List Value) : Prop :=
  cs.length = n * sz ∧ ∃ a c, v = .slice a n c ∧ n ≤ c ∧ c ≤ maxLen ∧ (a = none → c = 0) ∧ ∀ b off sp, a = some ⟨b, off, sp⟩ → sp = none ∧ b < w.heap.size ∧ ∀ j u, cs[j]? = some u → w.cell? ⟨b, off + j, none⟩ = some u
section
variable {w w' : World} {sz n : Nat} {v : Value} {cs : List Value}
theorem Sl.nil (w : World) (sz : Nat) : Sl w sz (.slice none 0 0) 0 [] :=
  ⟨by simp, none, 0, rfl, Nat.le_refl _, by simp [maxLen], fun _ => rfl, fun _ _ _ h => by cases h⟩
theorem Sl.len (h : Sl w sz v n cs) : cs.length = n * sz := h.1
/-- What lies below stays. -/
theorem Sl.below (h : Sl w sz v n cs) (hb : Below w.heap.size w w') : Sl w' sz v n cs := by
  obtain ⟨hl, a, c, hv, h1, h2, h3, h4⟩ := h
  refine ⟨hl, a, c, hv, h1, h2, h3, fun b off sp ha => ?_⟩
  obtain ⟨h5, h6, h7⟩ := h4 b off sp ha
  exact ⟨h5, Nat.lt_of_lt_of_le h6 hb.size, fun j u hu => (hb.cell (p := ⟨b, off + j, none⟩) h6).trans (h7 j u hu)⟩
theorem Sl.alloc (h : Sl w sz v n cs) (o : Obj) : Sl (w.alloc o) sz v n cs := h.below ((Below.refl _ _).alloc (Nat.le_refl _) o)
theorem Sl.drew (h : Sl w sz v n cs) : Sl w.drew sz v n cs := h
/-- A block that is known whole, as a slice from its head. -/
theorem Sl.of_blk {b : Nat} {vs : List Value} {t : TypeId} (h : Blk w b vs t) (n c : Nat) (hc : n ≤ c) (hm : c ≤ maxLen) (hl : n * sz ≤ vs.length) :
    Sl w sz (.slice (some ⟨b, 0, none⟩) n c) n (vs.take (n * sz)) := by
  refine ⟨by simp; omega, _, c, rfl, hc, hm, (fun h => by cases h), fun b' off sp ha => ?_⟩
  obtain ⟨rfl, rfl, rfl⟩ : b = b' ∧ 0 = off ∧ none = sp := by
    simp only [Option.some.injEq, Addr.mk.injEq] at ha
    exact ha
  refine ⟨rfl, h.lt, fun j u hu => ?_⟩
  rw [Nat.zero_add]
  refine h.cell ?_
  rw [List.getElem?_take] at hu
  split at hu
  · exact hu
  · cases hu
/-- What the call's own slice holds. -/
theorem Sl.of_owns {base : Nat} {e : TypeId} (h : w.ownsRow base e sz v n cs) : Sl w sz v n cs := by
  obtain ⟨hl, h2⟩ := h
  rcases h2 with ⟨rfl, rfl⟩ | ⟨g, cap, cur, rfl, _, hg, hnc, hm, hsz, htake⟩
  · have : cs = [] := List.eq_nil_of_length_eq_zero (by simpa using hl)
    subst this
    exact Sl.nil w sz
  · have hb : Blk w g cur.toList e := by unfold Blk; simpa using hg
    have := Sl.of_blk (sz := sz) hb n cap hnc hm (by rw [Array.length_toList, hsz]; exact Nat.mul_le_mul_right _ hnc)
    rwa [htake] at this
/-- Where the slice has an element its address is there. -/
theorem Sl.open (h : Sl w sz v n cs) : ∃ a c, v = .slice a n c ∧ n ≤ c ∧ c ≤ maxLen ∧ (a = none → c = 0) ∧
    (∀ j u, cs[j]? = some u → ∃ b off, a = some ⟨b, off, none⟩ ∧ b < w.heap.size ∧ w.cell? ⟨b, off + j, none⟩ = some u) := by
  obtain ⟨hl, a, c, hv, h1, h2, h3, h4⟩ := h
  refine ⟨a, c, hv, h1, h2, h3, fun j u hu => ?_⟩
  have hj : j < cs.length := (List.getElem?_eq_some_iff.1 hu).1
  cases a with
  | none =>
    have := h3 rfl
    have : n = 0 := by omega
    subst this
    simp at hl
    subst hl
    simp at hj
  | some a =>
    obtain ⟨b, off, sp⟩ := a
    obtain ⟨rfl, h6, h7⟩ := h4 b off sp rfl
    exact ⟨b, off, rfl, h6, h7 j u hu⟩
end
/-- A byte and an int as cells. -/
def bv (x : UInt8) : Value := .int .u8 (x.toNat : Int)
def iv (x : Int) : Value := .int .i64 x
/-- 'out = append(out, x)', x one element of sz cells, laid in a block of its own just before. -/
theorem wpList_append1 {P : Program} {ops : Array Oper} {rest : List Oper} {o : Oper} {a : Act} {Q : Exit → Act → World → Prop} (hgd : o.guard = none) (s x : Operand) (t : TypeId)
    (ho : o.op = .call { callee := .builtin .append, args := #[s, x], argTypes := #[t, t] }) (e : TypeId) (z : Value) (sz bytes : Nat) (ht : P.underlying t = some (.slice e))
    (hi : (P.info? e).map (fun i => (i.zero, i.size, i.bytes)) = some (some z, sz, bytes)) (hz : z.cells.size = sz) (hsz : 0 < sz) (hb0 : 0 < bytes) (W : World) (base : Nat) (v : Value) (n : Nat) (xs us : List Value)
    (hus : us.length = sz) (hu : ∀ u ∈ us, u.oneCell' = true) (hs : a.eval s = v) (hx : a.eval x = .slice (some ⟨W.heap.size, 0, none⟩) 1 1) (hown : W.ownsRow base e sz v n xs) (hn : (n + 1) * bytes ≤ 140737488355328) (hbase : base ≤ W.heap.size)
    (h : ∀ v' w', w'.ownsRow base e sz v' (n + 1) (xs ++ us) → W.grownBy w' v.ownBlock → wpList P ops Q rest (a.put o.dst v') w') : wpList P ops Q (o :: rest) a (W.alloc (.cells us.toArray e)) := by
  obtain ⟨i0, hi0, hz0, hz1, hz2⟩ := info_parts hi
  have hle : n + 1 ≤ (n + 1) * bytes := Nat.le_mul_of_pos_right _ hb0
  refine wpList_append_own _ hgd s x t ho base e i0 z sz bytes ht hi0 hz0 hz1 hz2 hz hsz v n xs hs (hown.alloc _) ⟨W.heap.size, 0, none⟩ 1 1 us hx (by omega) (fun j u hj => ?_) hu (by simp only [maxLen]; omega) hn (by simp; omega) (fun v' w' h1 h2 _ => h v' w' h1 ?_)
  · have hadd : (⟨W.heap.size, 0, none⟩ : Addr).add j = ⟨W.heap.size, j, none⟩ := by unfold Addr.add; split <;> simp_all
    rw [hadd]
    exact (Blk.new W us e).cell hj
  · have h0 := World.grownBy_alloc W (.cells us.toArray e) v.ownBlock
    exact ⟨h2.os.trans h0.os, h2.tape.trans h0.tape, h2.output.trans h0.output, Nat.le_trans h0.size h2.size, fun k hk hne => (h2.block k (Nat.lt_of_lt_of_le hk h0.size) hne).trans (h0.block k hk hne)⟩
/-- A row of the call's own, from base on: what lay below base has not turned. -/
theorem below_grown {base : Nat} {W w' : World} {e : TypeId} {sz n : Nat} {v : Value} {xs : List Value} (hown : W.ownsRow base e sz v n xs) (hg : W.grownBy w' v.ownBlock) (hbase : base ≤ W.heap.size) : Below base W w' :=
  (Below.refl base W).grown hg hbase (fun k hk => (hown.lt k hk).1)
/-- .. a value; what lay stays. -/
def RetV (w : World) (v : Value) (e : Ending) (w' : World) : Prop := e = .returned v ∧ Below w.heap.size w w'
theorem ret_i {k : IntKind} {a b : Int} (h : a = b) : Ending.returned (.int k a) = .returned (.int k b) := by rw [h]
theorem below_drewN {B : Nat} {a w : World} (h : Below B a w) (n : Nat) : Below B a (w.drewN n) := ⟨h.os, h.tape, h.output, h.size, h.block⟩
theorem below_new (w : World) (o : Obj) : Below w.heap.size w (w.alloc o) := (Below.refl _ _).alloc (Nat.le_refl _) o
end Go.Port
namespace Go.Port
/-- The fixed-point logarithm as the program computes it. -/
def logN (n : Nat) : Nat :=
  if 8 ≤ Nat.log2 n then Nat.log2 n * 256 + (n - 2 ^ Nat.log2 n) / 2 ^ (Nat.log2 n - 8) else Nat.log2 n * 256 + (n - 2 ^ Nat.log2 n) * 2 ^ (8 - Nat.log2 n)
theorem log2_lo {n : Nat} (h : n ≠ 0) : 2 ^ Nat.log2 n ≤ n := Nat.log2_self_le h
theorem log2_hi (n : Nat) : n < 2 ^ (Nat.log2 n + 1) := Nat.lt_log2_self
/-- .. and in one formula. -/
theorem logN_eq (n : Nat) : logN n = Nat.log2 n * 256 + (n - 2 ^ Nat.log2 n) * 256 / 2 ^ Nat.log2 n := by
  unfold logN
  generalize hk : Nat.log2 n = k
  split
  · rename_i h8
    have e : 2 ^ k = 2 ^ (k - 8) * 256 := by
      rw [show (256 : Nat) = 2 ^ 8 from rfl, ← Nat.pow_add, Nat.sub_add_cancel h8]
    congr 1
    generalize n - 2 ^ k = m
    rw [e, Nat.mul_div_mul_right _ _ (by decide)]
  · rename_i h8
    have e : 256 = 2 ^ k * 2 ^ (8 - k) := by
      rw [← Nat.pow_add, show k + (8 - k) = 8 by omega]
    congr 1
    generalize n - 2 ^ k = m
    rw [e, ← Nat.mul_assoc, Nat.mul_comm m (2 ^ k), Nat.mul_assoc, Nat.mul_div_cancel_left _ (Nat.two_pow_pos k)]
theorem logN_bounds (n : Nat) (h : n ≠ 0) : Nat.log2 n * 256 ≤ logN n ∧ logN n < Nat.log2 n * 256 + 256 := by
  rw [logN_eq n]
  refine ⟨Nat.le_add_right _ _, Nat.add_lt_add_left ?_ _⟩
  rw [Nat.div_lt_iff_lt_mul (Nat.two_pow_pos _)]
  have h1 := log2_lo h
  have h2 := log2_hi n
  rw [Nat.pow_succ] at h2
  generalize 2 ^ Nat.log2 n = p at *
  omega
theorem logN_mono {a b : Nat} (ha : a ≠ 0) (h : a ≤ b) : logN a ≤ logN b := by
  have hb : b ≠ 0 := by omega
  have h1 := logN_bounds a ha
  have h2 := logN_bounds b hb
  have hk : Nat.log2 a ≤ Nat.log2 b := by
    rw [Nat.le_log2 hb]
    exact Nat.le_trans (log2_lo ha) h
  rcases Nat.lt_or_ge (Nat.log2 a) (Nat.log2 b) with hlt | hge
  · have : (Nat.log2 a + 1) * 256 ≤ Nat.log2 b * 256 := Nat.mul_le_mul_right _ hlt
    omega
  · have e : Nat.log2 a = Nat.log2 b := by omega
    rw [logN_eq a, logN_eq b, e]
    refine Nat.add_le_add_left (Nat.div_le_div_right (Nat.mul_le_mul_right _ ?_)) _
    omega
/-- One step of the reference's eight doublings. -/
def dbl (power : Nat) (s : Nat × Nat) : Nat × Nat := if power - s.2 ≤ s.2 then (2 * s.1 + 1, s.2 - (power - s.2)) else (2 * s.1, 2 * s.2)
def dbls (power : Nat) : Nat → Nat × Nat → Nat × Nat
  | 0, s => s
  | i + 1, s => dbl power (dbls power i s)
theorem dbls_spec (p k m : Nat) (hp : 0 < p) (hm : m < p) (i : Nat) : dbls p i (k, m) = (k * 2 ^ i + m * 2 ^ i / p, m * 2 ^ i % p) := by
  induction i with
  | zero => simp [dbls, Nat.div_eq_of_lt hm, Nat.mod_eq_of_lt hm]
  | succ i ih =>
    rw [dbls, ih]
    have hr := Nat.mod_lt (m * 2 ^ i) hp
    have hd := Nat.div_add_mod (m * 2 ^ i) p
    have e2 : m * 2 ^ (i + 1) = m * 2 ^ i * 2 := by rw [Nat.pow_succ, Nat.mul_assoc]
    have e3 : k * 2 ^ (i + 1) = 2 * (k * 2 ^ i) := by rw [Nat.pow_succ, ← Nat.mul_assoc, Nat.mul_comm]
    rw [e2, e3]
    generalize k * 2 ^ i = K at *
    generalize m * 2 ^ i = M at *
    unfold dbl
    dsimp only
    generalize hq : M / p = q at *
    generalize hrr : M % p = r at *
    have hM : M * 2 = p * (2 * q) + 2 * r := by
      have : p * (2 * q) = 2 * (p * q) := by rw [Nat.mul_left_comm]
      omega
    split
    · have hM' : M * 2 = p * (2 * q + 1) + (2 * r - p) := by
        rw [Nat.mul_add]
        omega
      have h1 : M * 2 / p = 2 * q + 1 := by
        rw [hM', Nat.mul_add_div hp, Nat.div_eq_of_lt (by omega), Nat.add_zero]
      have h2 : M * 2 % p = 2 * r - p := by
        rw [hM', Nat.mul_add_mod, Nat.mod_eq_of_lt (by omega)]
      rw [h1, h2]
      congr 1 <;> omega
    · have h1 : M * 2 / p = 2 * q := by
        rw [hM, Nat.mul_add_div hp, Nat.div_eq_of_lt (by omega), Nat.add_zero]
      have h2 : M * 2 % p = 2 * r := by
        rw [hM, Nat.mul_add_mod, Nat.mod_eq_of_lt (by omega)]
      rw [h1, h2]
      congr 1 <;> omega
theorem logN_dbls (n : Nat) (h : n ≠ 0) : (dbls (2 ^ Nat.log2 n) 8 (Nat.log2 n, n - 2 ^ Nat.log2 n)).1 = logN n := by
  have h1 := log2_lo h
  have h2 := log2_hi n
  rw [Nat.pow_succ] at h2
  rw [dbls_spec _ _ _ (Nat.two_pow_pos _) (by omega), logN_eq n]
/-- .. on ints. -/
def lg (x : Int) : Int := (logN x.toNat : Nat)
theorem lg_bounds {x : Int} (h0 : 0 < x) (h1 : x < 4611686018427387904) : 0 ≤ lg x ∧ lg x < 16384 := by
  have hn : x.toNat ≠ 0 := by omega
  have hb := logN_bounds x.toNat hn
  have hk : Nat.log2 x.toNat < 62 := by
    rw [Nat.log2_lt hn]
    show x.toNat < 4611686018427387904
    omega
  unfold lg
  omega
theorem lg_mono {a b : Int} (ha : 0 < a) (h : a ≤ b) : lg a ≤ lg b := by
  unfold lg
  have := logN_mono (a := a.toNat) (b := b.toNat) (by omega) (by omega)
  omega
/-- A count that a histogram may hold. -/
def Cnt (c : Int) : Prop := 0 ≤ c ∧ c ≤ 2147483648
theorem sum_bounds {l : List Int} (h : ∀ c ∈ l, Cnt c) : 0 ≤ l.sum ∧ l.sum ≤ 2147483648 * l.length := by
  induction l with
  | nil => simp
  | cons c l ih =>
    have h1 := h c (by simp)
    have h2 := ih (fun c hc => h c (by simp [hc]))
    unfold Cnt at h1
    simp only [List.sum_cons, List.length_cons]
    omega
def bump (h : List Int) (c : UInt8) : List Int := h.set c.toNat (min 2147483648 (h.getD c.toNat 0 + 1))
def bumps (h : List Int) (bs : List UInt8) : List Int := bs.foldl bump h
def zeros : List Int := List.replicate 256 0
def histS (bs : List UInt8) : List Int := bumps zeros bs
theorem bump_length (h : List Int) (c : UInt8) : (bump h c).length = h.length := by simp [bump]
theorem bumps_length (h : List Int) (bs : List UInt8) : (bumps h bs).length = h.length := by
  induction bs generalizing h with
  | nil => rfl
  | cons c bs ih => rw [bumps, List.foldl_cons]; exact (ih _).trans (bump_length h c)
theorem zeros_length : zeros.length = 256 := by unfold zeros; rw [List.length_replicate]
theorem histS_length (bs : List UInt8) : (histS bs).length = 256 := (bumps_length _ _).trans zeros_length
theorem bumps_snoc (h : List Int) (a : List UInt8) (c : UInt8) : bumps h (a ++ [c]) = bump (bumps h a) c := by simp [bumps, List.foldl_append]
theorem bump_cnt {h : List Int} (hh : ∀ c ∈ h, Cnt c) (x : UInt8) : ∀ c ∈ bump h x, Cnt c := by
  intro c hc
  rcases List.mem_or_eq_of_mem_set hc with hc | rfl
  · exact hh c hc
  · have h0 : 0 ≤ h.getD x.toNat 0 := by
      rw [List.getD_eq_getElem?_getD]
      cases he : h[x.toNat]? with
      | none => simp
      | some v => exact (hh v (List.mem_of_getElem? he)).1
    unfold Cnt
    omega
theorem bumps_cnt {h : List Int} (hh : ∀ c ∈ h, Cnt c) (bs : List UInt8) : ∀ c ∈ bumps h bs, Cnt c := by
  induction bs generalizing h with
  | nil => exact hh
  | cons x bs ih => exact ih (bump_cnt hh x)
theorem zeros_cnt : ∀ c ∈ zeros, Cnt c := by
  intro c hc
  have := List.eq_of_mem_replicate hc
  subst this
  unfold Cnt
  omega
theorem histS_cnt (bs : List UInt8) : ∀ c ∈ histS bs, Cnt c := bumps_cnt zeros_cnt bs
end Go.Port
