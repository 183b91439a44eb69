/-
  Plain laws on memory, of no program: a block that is known whole; a slice that reads as a list of cells; what stays when memory grows.
  The walks of layer 28, first part: what is earlier; the lengths of matches, in the program and in the reference.
  Plain laws of layer 29: what the match found is. No program in sight. Plain laws of layers 30 and 31: a plan fits its data, and what it costs. No program in sight. Plain laws of layers 30 and 31: the rest of a plan is the plan from where its head ends. No program in sight. Plain laws of layers 30 and 31: the positions of a plan's matches. No program in sight.
-/
import Derived.Test.YtlgablepckmogaaGreatQ01
import Derived.WalkKit
import Derived.WalkSpells
import Derived.WalkLawsBesides
import Derived.Deep.QuietTactic
import Derived.BigQuiet
import Derived.Test.YtlgablepckmogaaGreatChecked
namespace Go.Port
open Go.RowKit
theorem hid {p : Prop} (h : p) : Hid p := h
/-- Block b is known whole. -/
def Blk (w : World) (b : Nat) (vs : List Value) (t : TypeId) : Prop := w.heap[b]? = some (.cells vs.toArray t (0, 0))
section
variable {w w' : World} {b : Nat} {vs : List Value} {t : TypeId}
theorem Blk.lt (h : Blk w b vs t) : b < w.heap.size := (Array.getElem?_eq_some_iff.1 h).1
theorem Blk.cell (h : Blk w b vs t) {k : Nat} {u : Value} (hk : vs[k]? = some u) : w.cell? ⟨b, k, none⟩ = some u := by
  unfold Blk at h
  simp [World.cell?, h, hk]
theorem Blk.frozen (h : Blk w b vs t) (k : Nat) : w.frozen? ⟨b, k, none⟩ = false := by
  unfold Blk at h
  simp [World.frozen?, h]
theorem Blk.below {B : Nat} (h : Blk w b vs t) (hb : Below B w w') (hlt : b < B) : Blk w' b vs t := (hb.block b hlt).trans h
theorem Blk.alloc (h : Blk w b vs t) (o : Obj) : Blk (w.alloc o) b vs t := (Below.heap_alloc w o b h.lt).trans h
theorem Blk.drew (h : Blk w b vs t) : Blk w.drew b vs t := h
theorem Blk.new (w : World) (vs : List Value) (t : TypeId) : Blk (w.alloc (.cells vs.toArray t)) w.heap.size vs t := heap_alloc_new w _
theorem Blk.other (h : Blk w b vs t) {a : Addr} (u : Value) (hne : a.block ≠ b) : Blk (w.setCell a u) b vs t :=
  (Below.heap_setCell w a u b (Ne.symm hne)).trans h
theorem Blk.set (h : Blk w b vs t) (k : Nat) (u : Value) : Blk (w.setCell ⟨b, k, none⟩ u) b (vs.set k u) t := by
  have hlt := h.lt
  have h' : w.heap[b] = .cells vs.toArray t (0, 0) := by
    unfold Blk at h
    simpa [Array.getElem?_eq_getElem hlt] using h
  unfold Blk
  show (w.heap.modify b _)[b]? = _
  rw [Array.getElem?_eq_getElem (by simpa using hlt), Array.getElem_modify_self, h']
  simp
theorem Blk.grown {row : Option Nat} (h : Blk w b vs t) (hg : w.grownBy w' row) (hne : some b ≠ row) : Blk w' b vs t := (hg.block b h.lt hne).trans h
end
/-- The value v is a slice of n elements of sz cells each; it reads as the cells cs. -/
def Sl (w : World) (sz : Nat) (v : Value) (n : Nat) (cs : List Value) : Prop :=
  cs.length = n * sz ∧ ∃ a c, v = .slice a n c ∧ n ≤ c ∧ c ≤ maxLen ∧ (a = none → c = 0) ∧ ∀ b off sp, a = some ⟨b, off, sp⟩ → sp = none ∧ b < w.heap.size ∧ ∀ j u, cs[j]? = some u → w.cell? ⟨b, off + j, none⟩ = some u
section
variable {w w' : World} {sz n : Nat} {v : Value} {cs : List Value}
theorem Sl.nil (w : World) (sz : Nat) : Sl w sz (.slice none 0 0) 0 [] :=
  ⟨by simp, none, 0, rfl, Nat.le_refl _, by simp [maxLen], fun _ => rfl, fun _ _ _ h => by cases h⟩
theorem Sl.len (h : Sl w sz v n cs) : cs.length = n * sz := h.1
/-- What lies below stays. -/
theorem Sl.below (h : Sl w sz v n cs) (hb : Below w.heap.size w w') : Sl w' sz v n cs := by
  obtain ⟨hl, a, c, hv, h1, h2, h3, h4⟩ := h
  refine ⟨hl, a, c, hv, h1, h2, h3, fun b off sp ha => ?_⟩
  obtain ⟨h5, h6, h7⟩ := h4 b off sp ha
  exact ⟨h5, Nat.lt_of_lt_of_le h6 hb.size, fun j u hu => (hb.cell (p := ⟨b, off + j, none⟩) h6).trans (h7 j u hu)⟩
theorem Sl.alloc (h : Sl w sz v n cs) (o : Obj) : Sl (w.alloc o) sz v n cs := h.below ((Below.refl _ _).alloc (Nat.le_refl _) o)
theorem Sl.drew (h : Sl w sz v n cs) : Sl w.drew sz v n cs := h
/-- A block that is known whole, as a slice from its head. -/
theorem Sl.of_blk {b : Nat} {vs : List Value} {t : TypeId} (h : Blk w b vs t) (n c : Nat) (hc : n ≤ c) (hm : c ≤ maxLen) (hl : n * sz ≤ vs.length) :
    Sl w sz (.slice (some ⟨b, 0, none⟩) n c) n (vs.take (n * sz)) := by
  refine ⟨by simp; omega, _, c, rfl, hc, hm, (fun h => by cases h), fun b' off sp ha => ?_⟩
  obtain ⟨rfl, rfl, rfl⟩ : b = b' ∧ 0 = off ∧ none = sp := by
    simp only [Option.some.injEq, Addr.mk.injEq] at ha
    exact ha
  refine ⟨rfl, h.lt, fun j u hu => ?_⟩
  rw [Nat.zero_add]
  refine h.cell ?_
  rw [List.getElem?_take] at hu
  split at hu
  · exact hu
  · cases hu
/-- What the call's own slice holds. -/
theorem Sl.of_owns {base : Nat} {e : TypeId} (h : w.ownsRow base e sz v n cs) : Sl w sz v n cs := by
  obtain ⟨hl, h2⟩ := h
  rcases h2 with ⟨rfl, rfl⟩ | ⟨g, cap, cur, rfl, _, hg, hnc, hm, hsz, htake⟩
  · have : cs = [] := List.eq_nil_of_length_eq_zero (by simpa using hl)
    subst this
    exact Sl.nil w sz
  · have hb : Blk w g cur.toList e := by unfold Blk; simpa using hg
    have := Sl.of_blk (sz := sz) hb n cap hnc hm (by rw [Array.length_toList, hsz]; exact Nat.mul_le_mul_right _ hnc)
    rwa [htake] at this
/-- Where the slice has an element its address is there. -/
theorem Sl.open (h : Sl w sz v n cs) : ∃ a c, v = .slice a n c ∧ n ≤ c ∧ c ≤ maxLen ∧ (a = none → c = 0) ∧
    (∀ j u, cs[j]? = some u → ∃ b off, a = some ⟨b, off, none⟩ ∧ b < w.heap.size ∧ w.cell? ⟨b, off + j, none⟩ = some u) := by
  obtain ⟨hl, a, c, hv, h1, h2, h3, h4⟩ := h
  refine ⟨a, c, hv, h1, h2, h3, fun j u hu => ?_⟩
  have hj : j < cs.length := (List.getElem?_eq_some_iff.1 hu).1
  cases a with
  | none =>
    have := h3 rfl
    have : n = 0 := by omega
    subst this
    simp at hl
    subst hl
    simp at hj
  | some a =>
    obtain ⟨b, off, sp⟩ := a
    obtain ⟨rfl, h6, h7⟩ := h4 b off sp rfl
    exact ⟨b, off, rfl, h6, h7 j u hu⟩
end
/-- A byte and an int as cells. -/
def bv (x : UInt8) : Value := .int .u8 (x.toNat : Int)
def iv (x : Int) : Value := .int .i64 x
/-- 'out = append(out, x)', x one element of sz cells, laid in a block of its own just before. -/
theorem wpList_append1 {P : Program} {ops : Array Oper} {rest : List Oper} {o : Oper} {a : Act} {Q : Exit → Act → World → Prop} (hgd : o.guard = none) (s x : Operand) (t : TypeId)
    (ho : o.op = .call { callee := .builtin .append, args := #[s, x], argTypes := #[t, t] }) (e : TypeId) (z : Value) (sz bytes : Nat) (ht : P.underlying t = some (.slice e))
    (hi : (P.info? e).map (fun i => (i.zero, i.size, i.bytes)) = some (some z, sz, bytes)) (hz : z.cells.size = sz) (hsz : 0 < sz) (hb0 : 0 < bytes) (W : World) (base : Nat) (v : Value) (n : Nat) (xs us : List Value)
    (hus : us.length = sz) (hu : ∀ u ∈ us, u.oneCell' = true) (hs : a.eval s = v) (hx : a.eval x = .slice (some ⟨W.heap.size, 0, none⟩) 1 1) (hown : W.ownsRow base e sz v n xs) (hn : (n + 1) * bytes ≤ 140737488355328) (hbase : base ≤ W.heap.size)
    (h : ∀ v' w', w'.ownsRow base e sz v' (n + 1) (xs ++ us) → W.grownBy w' v.ownBlock → wpList P ops Q rest (a.put o.dst v') w') : wpList P ops Q (o :: rest) a (W.alloc (.cells us.toArray e)) := by
  obtain ⟨i0, hi0, hz0, hz1, hz2⟩ := info_parts hi
  have hle : n + 1 ≤ (n + 1) * bytes := Nat.le_mul_of_pos_right _ hb0
  refine wpList_append_own _ hgd s x t ho base e i0 z sz bytes ht hi0 hz0 hz1 hz2 hz hsz v n xs hs (hown.alloc _) ⟨W.heap.size, 0, none⟩ 1 1 us hx (by omega) (fun j u hj => ?_) hu (by simp only [maxLen]; omega) hn (by simp; omega) (fun v' w' h1 h2 _ => h v' w' h1 ?_)
  · have hadd : (⟨W.heap.size, 0, none⟩ : Addr).add j = ⟨W.heap.size, j, none⟩ := by unfold Addr.add; split <;> simp_all
    rw [hadd]
    exact (Blk.new W us e).cell hj
  · have h0 := World.grownBy_alloc W (.cells us.toArray e) v.ownBlock
    exact ⟨h2.os.trans h0.os, h2.tape.trans h0.tape, h2.output.trans h0.output, Nat.le_trans h0.size h2.size, fun k hk hne => (h2.block k (Nat.lt_of_lt_of_le hk h0.size) hne).trans (h0.block k hk hne)⟩
/-- A row of the call's own, from base on: what lay below base has not turned. -/
theorem below_grown {base : Nat} {W w' : World} {e : TypeId} {sz n : Nat} {v : Value} {xs : List Value} (hown : W.ownsRow base e sz v n xs) (hg : W.grownBy w' v.ownBlock) (hbase : base ≤ W.heap.size) : Below base W w' :=
  (Below.refl base W).grown hg hbase (fun k hk => (hown.lt k hk).1)
/-- .. a value; what lay stays. -/
def RetV (w : World) (v : Value) (e : Ending) (w' : World) : Prop := e = .returned v ∧ Below w.heap.size w w'
theorem ret_i {k : IntKind} {a b : Int} (h : a = b) : Ending.returned (.int k a) = .returned (.int k b) := by rw [h]
theorem quiet_left {P : Program} {f : FuncId} {args : Array Value} {w : World} {n : Nat} {v : Value}
    (h : Calls P f args (w.drewN n) fun e w' => e = .returned v ∧ w.drewN n = w') : Calls P f args (w.drewN n) fun e w'' => e = .returned v ∧ ∃ m, w'' = w.drewN m :=
  h.mono fun _ _ ⟨he, hm⟩ => ⟨he, n, hm.symm⟩
theorem quiet_left2 {P : Program} {f : FuncId} {args : Array Value} {w : World} {m n : Nat} {v : Value}
    (h : Calls P f args (w.drewN (m + n)) fun e w' => e = .returned v ∧ w.drewN (m + n) = w') : Calls P f args (w.drewN (m + n)) fun e w'' => e = .returned v ∧ ∃ k, w'' = w.drewN (m + k) :=
  h.mono fun _ _ ⟨he, hm⟩ => ⟨he, n, hm.symm⟩
theorem below_drewN {B : Nat} {a w : World} (h : Below B a w) (n : Nat) : Below B a (w.drewN n) := ⟨h.os, h.tape, h.output, h.size, h.block⟩
theorem below_new (w : World) (o : Obj) : Below w.heap.size w (w.alloc o) := (Below.refl _ _).alloc (Nat.le_refl _) o
def InI (x : Int) : Prop := -9223372036854775808 ≤ x ∧ x ≤ 9223372036854775807
end Go.Port
namespace Go.Port
open Go.RowKit
theorem cpl_more {b : List UInt8} {p q k : Nat} {most : Int} (h : k < cpl most.toNat (b.drop p) (b.drop q)) : (k : Int) < most ∧ p + k < b.length ∧ q + k < b.length ∧ b[p + k]? = b[q + k]? := by
  have h1 := cpl_le most.toNat (b.drop p) (b.drop q)
  have h2 := cpl_eq most.toNat (b.drop p) (b.drop q) k h
  rw [List.getElem?_drop, List.getElem?_drop] at h2
  rw [List.length_drop, List.length_drop] at h1
  exact ⟨by omega, by omega, by omega, h2⟩
theorem cpl_end {b : List UInt8} {p q L : Nat} {most : Int} (hq : q ≤ p) (h : L = cpl most.toNat (b.drop p) (b.drop q)) : ¬ (L : Int) < most ∨ ¬ p + L < b.length ∨ b[p + L]? ≠ b[q + L]? := by
  rcases Int.lt_or_le (L : Int) most with h1 | h1
  · rcases Nat.lt_or_ge (p + L) b.length with h2 | h2
    · have h3 := cpl_stop most.toNat (b.drop p) (b.drop q) (by omega) (by rw [List.length_drop]; omega) (by rw [List.length_drop]; omega)
      rw [← h, List.getElem?_drop, List.getElem?_drop] at h3
      exact .inr (.inr h3)
    · exact .inr (.inl (by omega))
  · exact .inl (by omega)
theorem u8_ne {x y : UInt8} (h : x ≠ y) : ¬ (x.toNat : Int) = (y.toNat : Int) := fun e => h (UInt8.toNat_inj.1 (by omega))
theorem earlier_iff {n : Nat} {pos frm : Int} (h : earlierB n pos frm = true) : ∃ p q : Nat, pos = (p : Int) ∧ frm = (q : Int) ∧ q < p ∧ p ≤ n := by
  unfold earlierB at h
  simp only [Bool.and_eq_true, decide_eq_true_eq] at h
  exact ⟨pos.toNat, frm.toNat, by omega, by omega, by omega, by omega⟩
end Go.Port
namespace Go.Proofs.YtlgablepckmogaaGreat
open Go.RowKit Go.Port
end Go.Proofs.YtlgablepckmogaaGreat
namespace Go.Port
open Go.RowKit
theorem firstGo_mem (f : Sq → Sq → Bool) (l : List Sq) : ∀ (o : Option Sq) (s : Sq), firstGo f o l = some s → o = some s ∨ s ∈ l := by
  induction l with
  | nil => intro o s h; cases o <;> exact .inl h
  | cons x l ih =>
    intro o s h
    cases o with
    | none =>
      rcases ih _ _ h with h1 | h1
      · cases h1; exact .inr (by simp)
      · exact .inr (by simp [h1])
    | some y =>
      rcases ih _ _ h with h1 | h1
      · split at h1
        · cases h1; exact .inr (by simp)
        · exact .inl h1
      · exact .inr (by simp [h1])
theorem bestS_mem {b : List UInt8} {pos most : Int} {frm : List Int} {s : Sq} (h : bestS b pos most frm = some s) : s ∈ matchesS b pos most frm ∧ 3 ≤ s.len := by
  unfold bestS at h
  cases hf : firstGo aheadB none (matchesS b pos most frm) with
  | none => rw [hf] at h; cases h
  | some t =>
    rw [hf] at h
    dsimp only at h
    split at h
    · cases h
    · cases h
      rcases firstGo_mem _ _ _ _ hf with h1 | h1
      · cases h1
      · exact ⟨h1, by omega⟩
/-- The match found: where it lies, and that its bytes are those at its offset. -/
theorem findS_is {B : List UInt8} {A : Nat} {W D p : Int} {s : Sq} (h : findS B A W D p = some s) :
    ∃ P n d : Nat, p = (P : Int) ∧ s = ⟨0, n, d⟩ ∧ 3 ≤ n ∧ 1 ≤ d ∧ d ≤ A + P ∧ (d : Int) ≤ W ∧ A + P + n ≤ B.length ∧ (∀ k, k < n → B[A + P + k]? = B[A + P + k - d]?) := by
  unfold findS at h
  split at h
  · rename_i hp
    obtain ⟨P, rfl⟩ : ∃ P : Nat, p = (P : Int) := ⟨p.toNat, by omega⟩
    rw [Int.toNat_natCast] at h
    obtain ⟨hm, h3⟩ := bestS_mem h
    obtain ⟨x, hx, he, rfl⟩ := matchesS_mem hm
    obtain ⟨q, hq, rfl⟩ := List.mem_map.1 hx
    obtain ⟨c1, c2, c3, c4⟩ := candS_mem hq
    have hl : lenS B ((A + P : Nat) : Int) (q : Int) (B.length : Int) = cpl (B.length : Int).toNat (B.drop ((A + P : Nat) : Int).toNat) (B.drop (q : Int).toNat) := by unfold lenS; rw [he]; rfl
    rw [hl] at h3 ⊢
    simp only [Int.toNat_natCast] at h3 ⊢
    have h1 := cpl_le B.length (B.drop (A + P)) (B.drop q)
    have h2 := cpl_eq B.length (B.drop (A + P)) (B.drop q)
    generalize cpl B.length (B.drop (A + P)) (B.drop q) = N at *
    rw [List.length_drop, List.length_drop] at h1
    refine ⟨P, N, A + P - q, rfl, ?_, by omega, by omega, by omega, by omega, by omega, fun k hk => ?_⟩
    · congr 1
      omega
    · have := h2 k hk
      rw [List.getElem?_drop, List.getElem?_drop] at this
      rw [this]
      congr 1
      omega
  · cases h
theorem findS_form {B : List UInt8} {A : Nat} {W D p : Int} {s : Sq} (h : findS B A W D p = some s) : s.lit = 0 ∧ 3 ≤ s.len ∧ 1 ≤ s.off ∧ 0 ≤ p ∧ p + s.len ≤ (B.length : Int) - A ∧ s.off ≤ W ∧ s.off ≤ A + p := by
  obtain ⟨P, n, d, rfl, rfl, h1, h2, h3, h4, h5, _⟩ := findS_is h
  exact ⟨rfl, (by omega : (3 : Int) ≤ n), (by omega : (1 : Int) ≤ d), (by omega : (0 : Int) ≤ P), (by omega : (P : Int) + n ≤ (B.length : Int) - A), h4, (by omega : (d : Int) ≤ A + P)⟩
theorem findS_ok {B : List UInt8} {A : Nat} {W D : Int} {least : Int} : MvOk (greedyA (findS B A W D) least) := greedyA_ok fun p s h => by
  have := findS_form h
  omega
end Go.Port
namespace Go.Port
open Go.RowKit
/-- A plan without its positions. -/
def seqsL (l : List (Int × Sq)) : List Sq := l.map (·.2)
/-- What is taken is a match within the data. -/
def ActIn (size W : Int) (act : Int → Mv) : Prop := ∀ p s, act p = .take s → s.lit = 0 ∧ 3 ≤ s.len ∧ 1 ≤ s.off ∧ s.off ≤ W ∧ p + s.len ≤ size ∧ 0 ≤ p
theorem greedyA_take {find : Int → Option Sq} {least p : Int} {s : Sq} (h : greedyA find least p = .take s) : find p = some s ∧ least ≤ s.len := by
  unfold greedyA at h
  cases hf : find p with
  | none => rw [hf] at h; simp at h
  | some t =>
    rw [hf] at h
    simp only at h
    split at h
    · simp at h
    · simp only [Mv.take.injEq] at h
      subst h
      exact ⟨rfl, by omega⟩
theorem log_off {x : Int} (h1 : 1 ≤ x) (h2 : x ≤ 134217728) : 0 ≤ logI x ∧ logI x ≤ 27 := by
  unfold logI
  refine ⟨by omega, ?_⟩
  have h : Nat.log2 x.toNat < 28 := (Nat.log2_lt (by omega)).2 (by omega)
  omega
/-- A plan costs at most 15 a sequence more than its literals alone. -/
theorem planS_cost {act : Int → Mv} {W size : Int} (hm : MvOk act) (hi : ActIn size W act) (hW : W ≤ 134217728) : ∀ (k : Nat) (p frm price : Int), size - p ≤ k → frm ≤ p → p ≤ size → (∀ q n, act q = .go n → q < size → n ≤ size) →
    ∃ r, costGoM (size - frm) price (seqsL (planS act size p frm)) = some r ∧ r ≤ price + 15 * ((planS act size p frm).length : Nat) := by
  intro k
  induction k with
  | zero =>
    intro p frm price h hf hp _
    rw [planS_end act frm (by omega)]
    exact ⟨price, rfl, by simp⟩
  | succ k ih =>
    intro p frm price h hf hp hg
    by_cases hlt : p < size
    · cases e : act p with
      | go n =>
        have := (hm p).1 n e
        have h2 := hg p n e hlt
        rw [planS_go hm frm hlt e]
        exact ih n frm price (by omega) (by omega) h2 hg
      | take s =>
        obtain ⟨h0, h1, h2, h3, h4, h5⟩ := hi p s e
        rw [planS_take hm frm hlt e]
        have hl := log_off h2 (Int.le_trans h3 hW)
        obtain ⟨r, hr, hr2⟩ := ih (p + s.len) (p + s.len) (price + (12 + logI s.off - 8 * s.len)) (by omega) (Int.le_refl _) h4 hg
        refine ⟨r, ?_, ?_⟩
        · unfold seqsL at hr ⊢
          rw [List.map_cons]
          unfold costGoM
          have hb : seqBad (size - frm) ⟨p - frm, s.len, s.off⟩ = false := by
            unfold seqBad
            simp only [Bool.or_eq_false_iff, decide_eq_false_iff_not]
            omega
          rw [hb]
          simp only [Bool.false_eq_true, if_false]
          rw [← hr]
          congr 1
          omega
        · simp only [List.length_cons]
          omega
    · rw [planS_end act frm (by omega)]
      exact ⟨price, rfl, by simp⟩
end Go.Port
namespace Go.Port
open Go.RowKit
/-- Where a plan ends that starts at a. -/
def endOf (a : Int) : List Sq → Int
  | [] => a
  | s :: r => endOf (a + s.lit + s.len) r
theorem endOf_snoc (l : List Sq) (x : Sq) : ∀ a, endOf a (l ++ [x]) = endOf a l + x.lit + x.len := by
  induction l with
  | nil => intro a; rfl
  | cons y r ih => intro a; exact ih _
end Go.Port
namespace Go.Port
open Go.RowKit
end Go.Port
