/-
  Plain laws of layer 33 (best): the candidate matches at an index.
  Plain laws on memory, of no program: a block that is known whole; a slice that reads as a list of cells; what stays when memory grows.
-/
import Derived.Test.YtiagbejfghincaaGreatX01
import Derived.WalkKit
import Derived.WalkSpells
import Derived.WalkLawsBesides
import Derived.Deep.QuietTactic
import Derived.BigQuiet
namespace Go.Port
open Go.RowKit
/-- Matches longer and longer, none shorter than lo. -/
def Rising : Int → List Sq → Prop
  | _, [] => True
  | lo, s :: r => lo ≤ s.len ∧ Rising (s.len + 1) r
theorem Rising.mono {lo lo' : Int} {l : List Sq} (h : Rising lo l) (hl : lo' ≤ lo) : Rising lo' l := by
  cases l with
  | nil => trivial
  | cons s r => exact ⟨by have := h.1; omega, h.2⟩
/-- The numbers from n on, k of them; the numbers from n to m. -/
def spanN : Int → Nat → List Int
  | _, 0 => []
  | n, k + 1 => n :: spanN (n + 1) k
def span (n m : Int) : List Int := spanN n (m + 1 - n).toNat
theorem spanN_length (n : Int) (k : Nat) : (spanN n k).length = k := by
  induction k generalizing n with
  | zero => rfl
  | succ k ih => simp [spanN, ih]
theorem spanN_app (n : Int) (a b : Nat) : spanN n (a + b) = spanN n a ++ spanN (n + a) b := by
  induction a generalizing n with
  | zero => simp [spanN]
  | succ a ih =>
    rw [show a + 1 + b = (a + b) + 1 from by omega]
    simp only [spanN, List.cons_append]
    rw [ih, show n + 1 + (a : Int) = n + ((a + 1 : Nat) : Int) from by omega]
theorem spanN_snoc (n : Int) (k : Nat) : spanN n (k + 1) = spanN n k ++ [n + k] := by
  rw [spanN_app]
  rfl
theorem span_mem {n m x : Int} (h : x ∈ span n m) : n ≤ x ∧ x ≤ m := by
  unfold span at h
  have : ∀ (k : Nat) (n x : Int), x ∈ spanN n k → n ≤ x ∧ x < n + k := by
    intro k
    induction k with
    | zero => intro n x h; simp [spanN] at h
    | succ k ih =>
      intro n x h
      simp only [spanN, List.mem_cons] at h
      rcases h with rfl | h
      · omega
      · have := ih _ _ h; omega
  have := this _ _ _ h
  omega
/-- The candidates of a list of matches, from the length n on. -/
def bGo : Int → List Sq → List Sq
  | _, [] => []
  | n, s :: r => (span n (min 64 s.len)).map (fun k => (⟨0, k, s.off⟩ : Sq)) ++ bGo (max n (min 64 s.len + 1)) r
def bN : Int → List Sq → Int
  | n, [] => n
  | n, s :: r => bN (max n (min 64 s.len + 1)) r
def bLast (l : List Sq) : Sq := l.getLastD ⟨0, 0, 0⟩
def bSteps (l : List Sq) : List Sq := bGo 3 l ++ (if 64 < (bLast l).len then [bLast l] else [])
theorem bGo_snoc (s : Sq) : ∀ (l : List Sq) (n : Int), bGo n (l ++ [s]) = bGo n l ++ (span (bN n l) (min 64 s.len)).map (fun k => (⟨0, k, s.off⟩ : Sq)) := by
  intro l
  induction l with
  | nil => intro n; simp [bGo, bN]
  | cons x r ih => intro n; simp only [List.cons_append, bGo, bN, ih, List.append_assoc]
theorem bN_snoc (s : Sq) : ∀ (l : List Sq) (n : Int), bN n (l ++ [s]) = max (bN n l) (min 64 s.len + 1) := by
  intro l
  induction l with
  | nil => intro n; rfl
  | cons x r ih => intro n; simp only [List.cons_append, bN, ih]
theorem bN_bounds : ∀ (l : List Sq) (n : Int), 3 ≤ n → n ≤ 65 → 3 ≤ bN n l ∧ bN n l ≤ 65 := by
  intro l
  induction l with
  | nil => intro n h1 h2; exact ⟨h1, h2⟩
  | cons x r ih => intro n h1 h2; exact ih _ (by omega) (by omega)
theorem bLast_snoc (l : List Sq) (s : Sq) : bLast (l ++ [s]) = s := by
  unfold bLast
  induction l with
  | nil => rfl
  | cons x r ih =>
    rw [List.cons_append, List.getLastD_cons]
    cases r with
    | nil => rfl
    | cons y t => rw [List.cons_append, List.getLastD_cons] at ih ⊢; exact ih
theorem bLast_cons2 (s t : Sq) (r : List Sq) : bLast (s :: t :: r) = bLast (t :: r) := by
  unfold bLast
  rw [List.getLastD_cons, List.getLastD_cons, List.getLastD_cons]
theorem bGo_length : ∀ (l : List Sq) (n : Int), 3 ≤ n → ((bGo n l).length : Int) ≤ 65 - min n 65 := by
  intro l
  induction l with
  | nil => intro n h; simp only [bGo, List.length_nil]; omega
  | cons s r ih =>
    intro n h
    have h1 := ih (max n (min 64 s.len + 1)) (by omega)
    have h2 : (span n (min 64 s.len)).length = (min 64 s.len + 1 - n).toNat := by unfold span; exact spanN_length _ _
    simp only [bGo, List.length_append, List.length_map, h2]
    omega
theorem bSteps_length (l : List Sq) : (bSteps l).length ≤ 63 := by
  have h := bGo_length l 3 (by omega)
  unfold bSteps
  rw [List.length_append]
  split <;> simp only [List.length_cons, List.length_nil] <;> omega
end Go.Port
namespace Go.Port
open Go.RowKit
theorem hid {p : Prop} (h : p) : Hid p := h
/-- Block b is known whole. -/
def Blk (w : World) (b : Nat) (vs : List Value) (t : TypeId) : Prop := w.heap[b]? = some (.cells vs.toArray t (0, 0))
section
variable {w w' : World} {b : Nat} {vs : List Value} {t : TypeId}
theorem Blk.lt (h : Blk w b vs t) : b < w.heap.size := (Array.getElem?_eq_some_iff.1 h).1
theorem Blk.cell (h : Blk w b vs t) {k : Nat} {u : Value} (hk : vs[k]? = some u) : w.cell? ⟨b, k, none⟩ = some u := by
  unfold Blk at h
  simp [World.cell?, h, hk]
theorem Blk.frozen (h : Blk w b vs t) (k : Nat) : w.frozen? ⟨b, k, none⟩ = false := by
  unfold Blk at h
  simp [World.frozen?, h]
theorem Blk.below {B : Nat} (h : Blk w b vs t) (hb : Below B w w') (hlt : b < B) : Blk w' b vs t := (hb.block b hlt).trans h
theorem Blk.alloc (h : Blk w b vs t) (o : Obj) : Blk (w.alloc o) b vs t := (Below.heap_alloc w o b h.lt).trans h
theorem Blk.drew (h : Blk w b vs t) : Blk w.drew b vs t := h
theorem Blk.new (w : World) (vs : List Value) (t : TypeId) : Blk (w.alloc (.cells vs.toArray t)) w.heap.size vs t := heap_alloc_new w _
theorem Blk.other (h : Blk w b vs t) {a : Addr} (u : Value) (hne : a.block ≠ b) : Blk (w.setCell a u) b vs t :=
  (Below.heap_setCell w a u b (Ne.symm hne)).trans h
theorem Blk.set (h : Blk w b vs t) (k : Nat) (u : Value) : Blk (w.setCell ⟨b, k, none⟩ u) b (vs.set k u) t := by
  have hlt := h.lt
  have h' : w.heap[b] = .cells vs.toArray t (0, 0) := by
    unfold Blk at h
    simpa [Array.getElem?_eq_getElem hlt] using h
  unfold Blk
  show (w.heap.modify b _)[b]? = _
  rw [Array.getElem?_eq_getElem (by simpa using hlt), Array.getElem_modify_self, h']
  simp
theorem Blk.grown {row : Option Nat} (h : Blk w b vs t) (hg : w.grownBy w' row) (hne : some b ≠ row) : Blk w' b vs t := (hg.block b h.lt hne).trans h
end
/-- The value v is a slice of n elements of sz cells each; it reads as the cells cs. -/
def Sl (w : World) (sz : Nat) (v : Value) (n : Nat) (cs : List Value) : Prop :=
  cs.length = n * sz ∧ ∃ a c, v = .slice a n c ∧ n ≤ c ∧ c ≤ maxLen ∧ (a = none → c = 0) ∧ ∀ b off sp, a = some ⟨b, off, sp⟩ → sp = none ∧ b < w.heap.size ∧ ∀ j u, cs[j]? = some u → w.cell? ⟨b, off + j, none⟩ = some u
section
variable {w w' : World} {sz n : Nat} {v : Value} {cs : List Value}
theorem Sl.nil (w : World) (sz : Nat) : Sl w sz (.slice none 0 0) 0 [] :=
  ⟨by simp, none, 0, rfl, Nat.le_refl _, by simp [maxLen], fun _ => rfl, fun _ _ _ h => by cases h⟩
theorem Sl.len (h : Sl w sz v n cs) : cs.length = n * sz := h.1
/-- What lies below stays. -/
theorem Sl.below (h : Sl w sz v n cs) (hb : Below w.heap.size w w') : Sl w' sz v n cs := by
  obtain ⟨hl, a, c, hv, h1, h2, h3, h4⟩ := h
  refine ⟨hl, a, c, hv, h1, h2, h3, fun b off sp ha => ?_⟩
  obtain ⟨h5, h6, h7⟩ := h4 b off sp ha
  exact ⟨h5, Nat.lt_of_lt_of_le h6 hb.size, fun j u hu => (hb.cell (p := ⟨b, off + j, none⟩) h6).trans (h7 j u hu)⟩
theorem Sl.alloc (h : Sl w sz v n cs) (o : Obj) : Sl (w.alloc o) sz v n cs := h.below ((Below.refl _ _).alloc (Nat.le_refl _) o)
theorem Sl.drew (h : Sl w sz v n cs) : Sl w.drew sz v n cs := h
/-- A block that is known whole, as a slice from its head. -/
theorem Sl.of_blk {b : Nat} {vs : List Value} {t : TypeId} (h : Blk w b vs t) (n c : Nat) (hc : n ≤ c) (hm : c ≤ maxLen) (hl : n * sz ≤ vs.length) :
    Sl w sz (.slice (some ⟨b, 0, none⟩) n c) n (vs.take (n * sz)) := by
  refine ⟨by simp; omega, _, c, rfl, hc, hm, (fun h => by cases h), fun b' off sp ha => ?_⟩
  obtain ⟨rfl, rfl, rfl⟩ : b = b' ∧ 0 = off ∧ none = sp := by
    simp only [Option.some.injEq, Addr.mk.injEq] at ha
    exact ha
  refine ⟨rfl, h.lt, fun j u hu => ?_⟩
  rw [Nat.zero_add]
  refine h.cell ?_
  rw [List.getElem?_take] at hu
  split at hu
  · exact hu
  · cases hu
/-- What the call's own slice holds. -/
theorem Sl.of_owns {base : Nat} {e : TypeId} (h : w.ownsRow base e sz v n cs) : Sl w sz v n cs := by
  obtain ⟨hl, h2⟩ := h
  rcases h2 with ⟨rfl, rfl⟩ | ⟨g, cap, cur, rfl, _, hg, hnc, hm, hsz, htake⟩
  · have : cs = [] := List.eq_nil_of_length_eq_zero (by simpa using hl)
    subst this
    exact Sl.nil w sz
  · have hb : Blk w g cur.toList e := by unfold Blk; simpa using hg
    have := Sl.of_blk (sz := sz) hb n cap hnc hm (by rw [Array.length_toList, hsz]; exact Nat.mul_le_mul_right _ hnc)
    rwa [htake] at this
/-- Where the slice has an element its address is there. -/
theorem Sl.open (h : Sl w sz v n cs) : ∃ a c, v = .slice a n c ∧ n ≤ c ∧ c ≤ maxLen ∧ (a = none → c = 0) ∧
    (∀ j u, cs[j]? = some u → ∃ b off, a = some ⟨b, off, none⟩ ∧ b < w.heap.size ∧ w.cell? ⟨b, off + j, none⟩ = some u) := by
  obtain ⟨hl, a, c, hv, h1, h2, h3, h4⟩ := h
  refine ⟨a, c, hv, h1, h2, h3, fun j u hu => ?_⟩
  have hj : j < cs.length := (List.getElem?_eq_some_iff.1 hu).1
  cases a with
  | none =>
    have := h3 rfl
    have : n = 0 := by omega
    subst this
    simp at hl
    subst hl
    simp at hj
  | some a =>
    obtain ⟨b, off, sp⟩ := a
    obtain ⟨rfl, h6, h7⟩ := h4 b off sp rfl
    exact ⟨b, off, rfl, h6, h7 j u hu⟩
end
/-- A byte and an int as cells. -/
def bv (x : UInt8) : Value := .int .u8 (x.toNat : Int)
def iv (x : Int) : Value := .int .i64 x
/-- 'out = append(out, x)', x one element of sz cells, laid in a block of its own just before. -/
theorem wpList_append1 {P : Program} {ops : Array Oper} {rest : List Oper} {o : Oper} {a : Act} {Q : Exit → Act → World → Prop} (hgd : o.guard = none) (s x : Operand) (t : TypeId)
    (ho : o.op = .call { callee := .builtin .append, args := #[s, x], argTypes := #[t, t] }) (e : TypeId) (z : Value) (sz bytes : Nat) (ht : P.underlying t = some (.slice e))
    (hi : (P.info? e).map (fun i => (i.zero, i.size, i.bytes)) = some (some z, sz, bytes)) (hz : z.cells.size = sz) (hsz : 0 < sz) (hb0 : 0 < bytes) (W : World) (base : Nat) (v : Value) (n : Nat) (xs us : List Value)
    (hus : us.length = sz) (hu : ∀ u ∈ us, u.oneCell' = true) (hs : a.eval s = v) (hx : a.eval x = .slice (some ⟨W.heap.size, 0, none⟩) 1 1) (hown : W.ownsRow base e sz v n xs) (hn : (n + 1) * bytes ≤ 140737488355328) (hbase : base ≤ W.heap.size)
    (h : ∀ v' w', w'.ownsRow base e sz v' (n + 1) (xs ++ us) → W.grownBy w' v.ownBlock → wpList P ops Q rest (a.put o.dst v') w') : wpList P ops Q (o :: rest) a (W.alloc (.cells us.toArray e)) := by
  obtain ⟨i0, hi0, hz0, hz1, hz2⟩ := info_parts hi
  have hle : n + 1 ≤ (n + 1) * bytes := Nat.le_mul_of_pos_right _ hb0
  refine wpList_append_own _ hgd s x t ho base e i0 z sz bytes ht hi0 hz0 hz1 hz2 hz hsz v n xs hs (hown.alloc _) ⟨W.heap.size, 0, none⟩ 1 1 us hx (by omega) (fun j u hj => ?_) hu (by simp only [maxLen]; omega) hn (by simp; omega) (fun v' w' h1 h2 _ => h v' w' h1 ?_)
  · have hadd : (⟨W.heap.size, 0, none⟩ : Addr).add j = ⟨W.heap.size, j, none⟩ := by unfold Addr.add; split <;> simp_all
    rw [hadd]
    exact (Blk.new W us e).cell hj
  · have h0 := World.grownBy_alloc W (.cells us.toArray e) v.ownBlock
    exact ⟨h2.os.trans h0.os, h2.tape.trans h0.tape, h2.output.trans h0.output, Nat.le_trans h0.size h2.size, fun k hk hne => (h2.block k (Nat.lt_of_lt_of_le hk h0.size) hne).trans (h0.block k hk hne)⟩
/-- A row of the call's own, from base on: what lay below base has not turned. -/
theorem below_grown {base : Nat} {W w' : World} {e : TypeId} {sz n : Nat} {v : Value} {xs : List Value} (hown : W.ownsRow base e sz v n xs) (hg : W.grownBy w' v.ownBlock) (hbase : base ≤ W.heap.size) : Below base W w' :=
  (Below.refl base W).grown hg hbase (fun k hk => (hown.lt k hk).1)
/-- .. a value; what lay stays. -/
def RetV (w : World) (v : Value) (e : Ending) (w' : World) : Prop := e = .returned v ∧ Below w.heap.size w w'
theorem ret_i {k : IntKind} {a b : Int} (h : a = b) : Ending.returned (.int k a) = .returned (.int k b) := by rw [h]
theorem below_drewN {B : Nat} {a w : World} (h : Below B a w) (n : Nat) : Below B a (w.drewN n) := ⟨h.os, h.tape, h.output, h.size, h.block⟩
theorem below_new (w : World) (o : Obj) : Below w.heap.size w (w.alloc o) := (Below.refl _ _).alloc (Nat.le_refl _) o
end Go.Port
