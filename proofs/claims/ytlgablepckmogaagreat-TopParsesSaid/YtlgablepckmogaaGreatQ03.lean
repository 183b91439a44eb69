/-
  What lies as it lay, as the walks want it, for every seat. Plain laws, for every seat: a row that is appended whole. Plain laws, for every seat: a region of open order whose operations read and whose callees leave what lay: one walk in the order of the text serves every order. Bytes turned to a string, of no program. Regions of open order inside a round, where no operation defers. Over no program. A law of our own for a range over a function whose iterator promises something (Ad) of each element at the moment when it yields it: a slice in fresh memory, which no law of the library lets it say. Over no program. Plain laws of own rows, for every seat: the forms of their values, that they lie as they lay. A law of our own for a range over a function, where iterators may stand on iterators: what a round keeps is said block by block (below B: the cells; from D on: all but cells of certain types). Over no program. Plain laws for the laws on iterators, for every seat: blocks between two bounds are turned; one turn that counts what comes and may be left early.
-/
import Derived.Test.YtlgablepckmogaaGreatQ02
import Derived.Laws.AppendOwnNone
import Derived.WideShapes
import Derived.Laws.BytesArg
import Derived.Sort.QuietIn
import Derived.RangeFuncFrom
import Derived.RangeFuncLeaves
import Derived.Deep.OwnRows
import Derived.RangeFuncWrites
namespace Go.Port
open Go.RowKit
theorem at_same {w W : World} {a : Option Addr} {cs : List Value} (h : ∀ j u, cs[j]? = some u → ∃ bl off, a = some ⟨bl, off, none⟩ ∧ bl < w.heap.size ∧ w.cell? ⟨bl, off + j, none⟩ = some u) (hW : Below w.heap.size w W) :
    ∀ j u, cs[j]? = some u → ∃ bl off, a = some ⟨bl, off, none⟩ ∧ bl < W.heap.size ∧ W.cell? ⟨bl, off + j, none⟩ = some u := by
  intro j u hu
  obtain ⟨bl, off, h1, h2, h3⟩ := h j u hu
  exact ⟨bl, off, h1, Nat.lt_of_lt_of_le h2 hW.size, (hW.cell (p := ⟨bl, off + j, none⟩) h2).trans h3⟩
end Go.Port
namespace Go.Port
open Go.RowKit
/-- 'out = append(out, xs...)', xs a slice of m elements of sz cells that reads as us. -/
theorem wpList_appendsK {P : Program} {ops : Array Oper} {rest : List Oper} {o : Oper} {a : Act} {Q : Exit → Act → World → Prop} (hgd : o.guard = none) (s x : Operand) (t : TypeId)
    (ho : o.op = .call { callee := .builtin .append, args := #[s, x], argTypes := #[t, t] }) (e : TypeId) (z : Value) (sz bytes : Nat) (ht : P.underlying t = some (.slice e))
    (hi : (P.info? e).map (fun i => (i.zero, i.size, i.bytes)) = some (some z, sz, bytes)) (hz : z.cells.size = sz) (hsz : 0 < sz) (hb0 : 0 < bytes) (W : World) (base : Nat) (v : Value) (n m c : Nat) (ad : Option Addr) (xs us : List Value)
    (hus : us.length = m * sz) (hu : ∀ u ∈ us, u.oneCell' = true) (hs : a.eval s = v) (hx : a.eval x = .slice ad m c) (hmc : m ≤ c) (had : ad = none → c = 0)
    (hc : ∀ j u, us[j]? = some u → ∃ b off, ad = some ⟨b, off, none⟩ ∧ b < W.heap.size ∧ W.cell? ⟨b, off + j, none⟩ = some u)
    (hown : W.ownsRow base e sz v n xs) (hn : (n + m) * bytes ≤ 140737488355328) (hbase : base ≤ W.heap.size)
    (h : ∀ v' w', w'.ownsRow base e sz v' (n + m) (xs ++ us) → W.grownBy w' v.ownBlock → wpList P ops Q rest (a.put o.dst v') w') : wpList P ops Q (o :: rest) a W := by
  obtain ⟨i0, hi0, hz0, hz1, hz2⟩ := info_parts hi
  cases ad with
  | none =>
    have : c = 0 := had rfl
    have : m = 0 := by omega
    subst this
    have : us = [] := List.eq_nil_of_length_eq_zero (by omega)
    subst this
    have hc0 : c = 0 := had rfl
    subst hc0
    refine wpList_append_own_none hgd s x t ho base e i0 sz ht hi0 v n xs hs hown hx (h v W (by simpa using hown) (World.grownBy.refl W _))
  | some ad =>
    have hle : n + m ≤ (n + m) * bytes := Nat.le_mul_of_pos_right _ hb0
    refine wpList_append_own _ hgd s x t ho base e i0 z sz bytes ht hi0 hz0 hz1 hz2 hz hsz v n xs hs hown ad m c us hx hus (fun j u hj => ?_) hu (by simp only [maxLen]; omega) hn hbase (fun v' w' h1 h2 _ => h v' w' h1 h2)
    obtain ⟨b, off, e1, _, e2⟩ := hc j u hj
    simp only [Option.some.injEq] at e1
    subst e1
    rw [Go.WideShapes.add_plain]
    exact e2
/-- An empty slice that was just built. -/
theorem own_emptyK {w : World} {base : Nat} {e : TypeId} (sz : Nat) (hb : base ≤ w.heap.size) : (w.alloc (.cells #[] e)).ownsRow base e sz (.slice (some ⟨w.heap.size, 0, none⟩) 0 0) 0 [] :=
  ⟨by simp, .inr ⟨w.heap.size, 0, #[], rfl, hb, heap_alloc_new w _, Nat.le_refl _, by simp [maxLen], by simp, by simp⟩⟩
end Go.Port
namespace Go.Port
open Go.RowKit
/-- A world in which what lay below B lies as it lay. -/
structure LowOf (B : Nat) (w : World) where
  W : World
  below : Below B w W
instance (B : Nat) (w : World) : Inhabited (LowOf B w) := ⟨⟨w, Below.refl _ _⟩⟩
theorem wp_region_low {P : Program} {id : Nat} {Q : Exit → Act → World → Prop} {a : Act} {w : World} {l : List Oper} (B : Nat) (hm : P.follows .mixedOrders = true) (hB : Region.lexB .any l.toArray = true)
    (h : wpQuiet P l.toArray (fun w' => ∃ V : LowOf B w, w' = V.W) (fun a' => ∀ w', (∃ V : LowOf B w, w' = V.W) → Q .normal a' w') l a) : (Code.region id l.toArray true).wp P Q a w :=
  wp_region_quiet (C := fun w' => ∃ V : LowOf B w, w' = V.W) hm hB ⟨⟨_, below_drewN (Below.refl _ _) 1⟩, rfl⟩ (by simpa using h)
/-- A callee's contract. -/
theorem Calls.low_of {P : Program} {f : FuncId} {args : Array Value} {B : Nat} {w : World} (V : LowOf B w) {v : Value} (hB : B ≤ w.heap.size) (h : Calls P f args V.W (RetV V.W v)) :
    Calls P f args V.W fun e w'' => e = .returned v ∧ ∃ V' : LowOf B w, w'' = V'.W :=
  h.mono fun _ _ ⟨he, hb⟩ => ⟨he, ⟨⟨_, V.below.trans (hb.mono (Nat.le_trans hB V.below.size))⟩, rfl⟩⟩
theorem LowOf.cell {B : Nat} {w : World} {a : Addr} {v : Value} (h : w.cell? a = some v) (hb : a.block < B) (V : LowOf B w) : V.W.cell? a = some v := (V.below.cell hb).trans h
theorem Blk.newAt {W : World} {k : Nat} {vs : List Value} {t : TypeId} (h : k = W.heap.size) : Blk (W.alloc (.cells vs.toArray t)) k vs t := by
  subst h
  exact Blk.new W vs t
end Go.Port
namespace Go.Port
open Go.RowKit
theorem run_str {P : Program} (w : World) (src dst e : TypeId) (hs : P.underlying src = some (.slice e)) (he : P.underlying e = some (.int .u8)) (hd : P.underlying dst = some .string) (a : Option Addr) (n c : Nat) (bs : List UInt8) (hn : bs.length = n)
    (hc : ∀ j u, (bs.map bv)[j]? = some u → ∃ b off, a = some ⟨b, off, none⟩ ∧ b < w.heap.size ∧ w.cell? ⟨b, off + j, none⟩ = some u) :
    (convert src dst (.slice a n c)).run P w = .ok (.string ⟨bs.toArray⟩) w := by
  subst hn
  cases a with
  | none =>
    have : bs = [] := by
      cases bs with
      | nil => rfl
      | cons x r =>
        obtain ⟨_, _, h, _⟩ := hc 0 (bv x) rfl
        cases h
    subst this
    exact run_convert_bytes_nil w src e hs he _ _ dst hd
  | some a =>
    have hl : (loadCells a bs.length).run P w = .ok ((bs.map fun x => (x.toNat : Int)).map (Value.int .u8)).toArray w := by
      have h := run_loadCells_list (P := P) w a (bs.map bv) (fun j v hj => by
        obtain ⟨b, off, e1, _, e2⟩ := hc j v hj
        cases e1
        have hplain : (⟨b, off, none⟩ : Addr).add j = ⟨b, off + j, none⟩ := by unfold Addr.add; split <;> simp_all
        rw [hplain]
        exact e2)
      rw [List.length_map] at h
      rw [h, List.map_map]
      rfl
    rw [run_convert_bytes_string w src dst e _ _ c hs he hd, run_bytesToString w a bs.length c _ hl, foldl_push_bytes]
    have hm : (bs.map fun x => (x.toNat : Int)).map (fun n => UInt8.ofNat n.toNat) = bs := by
      rw [List.map_map]
      conv => rhs; rw [← List.map_id bs]
      refine List.map_congr_left fun x _ => ?_
      simp
    rw [hm]
    have he2 : ByteArray.empty.data ++ bs.toArray = bs.toArray := by
      have : ByteArray.empty.data = #[] := rfl
      rw [this]
      simp
    rw [he2]
end Go.Port
namespace Go.Port
open Go.RowKit
end Go.Port
namespace Go.Port
open Go.RowKit
/-- Stays when memory grows, and when a block from B on that holds no cells is turned. -/
def Stays {β : Type} (B : Nat) (I : β → World → Prop) : Prop :=
  ∀ s W W' row, I s W → W.grownBy W' row → (∀ r, row = some r → B ≤ r ∧ ∃ o : Obj, W.heap[r]? = some o ∧ o.isCells = false) → I s W'
theorem Stays.put {β : Type} {B : Nat} {I : β → World → Prop} (h : Stays B I) {s : β} {W : World} {l : Nat} {o : Obj} (o' : Obj) (hs : I s W) (hB : B ≤ l) (hl : W.heap[l]? = some o) (ho : o.isCells = false) : I s (W.putObj l o') :=
  h s W _ (some l) hs (grownBy_putObj' W l o') (fun r e => by cases e; exact ⟨hB, o, hl, ho⟩)
theorem Stays.new {β : Type} {B : Nat} {I : β → World → Prop} (h : Stays B I) {s : β} {W : World} (o : Obj) (hs : I s W) : I s (W.alloc o) :=
  h s W _ none hs (World.grownBy_alloc W o none) (fun r e => by cases e)
theorem grown_of_below {A B : World} (h : Below A.heap.size A B) : A.grownBy B none := ⟨h.os, h.tape, h.output, h.size, fun k hk _ => h.block k hk⟩
theorem Stays.low {β : Type} {B : Nat} {I : β → World → Prop} (h : Stays B I) {s : β} {W W' : World} (hs : I s W) (hb : Below W.heap.size W W') : I s W' := h s W W' none hs (grown_of_below hb) (fun r e => by cases e)
/-- The cells of every block but bn lie as they lay. -/
def KeepsBut (X : Nat → Prop) (W W' : World) : Prop := ∀ (k : Nat) (o : Obj), W.heap[k]? = some o → o.isCells = true → ¬ X k → W'.heap[k]? = some o
theorem KeepsBut.refl (X : Nat → Prop) (A : World) : KeepsBut X A A := fun _ _ h _ _ => h
theorem KeepsBut.trans {X : Nat → Prop} {A B C : World} (h : KeepsBut X A B) (h' : KeepsBut X B C) : KeepsBut X A C := fun k o hk ho hne => h' k o (h k o hk ho hne) ho hne
theorem KeepsBut.put {X : Nat → Prop} (A : World) (l : Nat) (o o' : Obj) (h : A.heap[l]? = some o) (ho : o.isCells = false) : KeepsBut X A (A.putObj l o') := fun k p hk hp _ => by
  refine (World.putObj_heap_other (fun e => ?_)).trans hk
  subst e
  rw [h] at hk
  cases hk
  rw [ho] at hp
  cases hp
theorem KeepsBut.blk {X : Nat → Prop} {b : Nat} {W W' : World} {vs : List Value} {t : TypeId} (h : KeepsBut X W W') (hb : Blk W b vs t) (hne : ¬ X b) : Blk W' b vs t := h b _ hb rfl hne
theorem KeepsBut.below {X : Nat → Prop} {A B : World} (h : Below A.heap.size A B) : KeepsBut X A B := fun k _ hk _ _ => (h.block k (Array.getElem?_eq_some_iff.1 hk).1).trans hk
theorem KeepsBut.grown {X : Nat → Prop} {A B : World} {row : Option Nat} (h : A.grownBy B row) (hx : ∀ r, row = some r → X r) : KeepsBut X A B := fun k _ hk _ hn =>
  (h.block k (Array.getElem?_eq_some_iff.1 hk).1 (fun e => hn (hx k e.symm))).trans hk
theorem KeepsBut.set {X : Nat → Prop} (A : World) (a : Addr) (u : Value) (hx : X a.block) : KeepsBut X A (A.setCell a u) := fun k _ hk _ hn =>
  (Below.heap_setCell A a u k (fun e => hn (by rw [e]; exact hx))).trans hk
end Go.Port
namespace Go.Port
open Go.RowKit
theorem own_slice {w : World} {base sz n : Nat} {e : TypeId} {v : Value} {xs : List Value} (h : w.ownsRow base e sz v n xs) : ∃ a c, v = .slice a n c := by
  obtain ⟨hl, h2⟩ := h
  rcases h2 with ⟨rfl, rfl⟩ | ⟨g, cap, cur, rfl, _⟩
  · exact ⟨_, _, rfl⟩
  · exact ⟨_, _, rfl⟩
theorem own_blk {w : World} {base sz n : Nat} {e : TypeId} {v : Value} {xs : List Value} (h : w.ownsRow base e sz v n xs) (hn : 0 < n) :
    ∃ g cap cs, v = .slice (some ⟨g, 0, none⟩) n cap ∧ base ≤ g ∧ n ≤ cap ∧ cap ≤ maxLen ∧ Blk w g cs e ∧ cs.take (n * sz) = xs := by
  obtain ⟨hl, h2⟩ := h
  rcases h2 with ⟨_, rfl⟩ | ⟨g, cap, cur, hv, h3, h4, h5, h6, _, h7⟩
  · omega
  · exact ⟨g, cap, cur.toList, hv, h3, h5, h6, by unfold Blk; simpa using h4, h7⟩
theorem own_low {w w' : World} {B sz n : Nat} {e : TypeId} {v : Value} {xs : List Value} (h : w.ownsRow B e sz v n xs) (hb : Below w.heap.size w w') : w'.ownsRow B e sz v n xs :=
  h.kept (grown_of_below hb) (by cases hv : v.ownBlock <;> simp)
theorem own_le {w : World} {base base' sz n : Nat} {e : TypeId} {v : Value} {xs : List Value} (h : w.ownsRow base e sz v n xs) (hb : base' ≤ base) : w.ownsRow base' e sz v n xs := by
  obtain ⟨h1, h2⟩ := h
  rcases h2 with h2 | ⟨g, cap, cur, hv, h3, h4⟩
  · exact ⟨h1, .inl h2⟩
  · exact ⟨h1, .inr ⟨g, cap, cur, hv, Nat.le_trans hb h3, h4⟩⟩
end Go.Port
namespace Go.Port
open Go.RowKit
/-- Stays when memory grows, and when a block from B on that holds no cells is turned. -/
def StaysC {β : Type} (B : Nat) (I : β → World → Prop) : Prop :=
  ∀ s W W' row, I s W → W.grownBy W' row → (∀ r, row = some r → B ≤ r ∧ ∃ o : Obj, W.heap[r]? = some o ∧ o.isCells = false) → I s W'
theorem StaysC.put {β : Type} {B : Nat} {I : β → World → Prop} (h : StaysC B I) {s : β} {W : World} {l : Nat} {o : Obj} (o' : Obj) (hs : I s W) (hB : B ≤ l) (hl : W.heap[l]? = some o) (ho : o.isCells = false) : I s (W.putObj l o') :=
  h s W _ (some l) hs (grownBy_putObj' W l o') (fun r e => by cases e; exact ⟨hB, o, hl, ho⟩)
theorem grown_of_low {A B : World} (h : Below A.heap.size A B) : A.grownBy B none := ⟨h.os, h.tape, h.output, h.size, fun k hk _ => h.block k hk⟩
theorem StaysC.low {β : Type} {B : Nat} {I : β → World → Prop} (h : StaysC B I) {s : β} {W W' : World} (hs : I s W) (hb : Below W.heap.size W W') : I s W' := h s W W' none hs (grown_of_low hb) (fun r e => by cases e)
/-- What a round keeps: every block from D on but cells of a type in T; the cells of the blocks in X. -/
structure KeepsT (X : Nat → Prop) (D : Nat) (T : TypeId → Bool) (A A' : World) : Prop where
  size : A.heap.size ≤ A'.heap.size
  same : ∀ (k : Nat) (o : Obj), A.heap[k]? = some o → (D ≤ k ∧ ∀ cs t z, o = .cells cs t z → T t = false) ∨ (X k ∧ o.isCells = true) → A'.heap[k]? = some o
theorem KeepsT.refl (X : Nat → Prop) (D : Nat) (T : TypeId → Bool) (A : World) : KeepsT X D T A A := ⟨Nat.le_refl _, fun _ _ h _ => h⟩
theorem KeepsT.trans {X : Nat → Prop} {D : Nat} {T : TypeId → Bool} {A A1 A2 : World} (h : KeepsT X D T A A1) (h' : KeepsT X D T A1 A2) : KeepsT X D T A A2 :=
  ⟨Nat.le_trans h.size h'.size, fun k o hk hc => h'.same k o (h.same k o hk hc) hc⟩
theorem KeepsT.low {X : Nat → Prop} {D : Nat} {T : TypeId → Bool} {A A' : World} (h : Below A.heap.size A A') : KeepsT X D T A A' :=
  ⟨h.size, fun k _ hk _ => (h.block k (Array.getElem?_eq_some_iff.1 hk).1).trans hk⟩
theorem KeepsT.drew {X : Nat → Prop} {D : Nat} {T : TypeId → Bool} {A : World} (n : Nat) : KeepsT X D T A (A.drewN n) := ⟨Nat.le_refl _, fun _ _ h _ => h⟩
/-- A store into a block below D that is not in X. -/
theorem KeepsT.set {X : Nat → Prop} {D : Nat} {T : TypeId → Bool} (A : World) (a : Addr) (u : Value) (h1 : ¬ X a.block) (h2 : a.block < D) : KeepsT X D T A (A.setCell a u) :=
  ⟨(KeepsWalks.setCell A a u).size, fun k _ hk hc => (Below.heap_setCell A a u k (fun e => by
    rcases hc with ⟨h, _⟩ | ⟨h, _⟩
    · omega
    · exact h1 (e ▸ h))).trans hk⟩
/-- A row of the round's own has grown. -/
theorem KeepsT.grown {X : Nat → Prop} {D : Nat} {T : TypeId → Bool} {A A' : World} {row : Option Nat} (h : A.grownBy A' row) (hr : ∀ r, row = some r → ¬ X r ∧ ∃ cs t z, A.heap[r]? = some (.cells cs t z) ∧ T t = true) : KeepsT X D T A A' :=
  ⟨h.size, fun k o hk hc => (h.block k (Array.getElem?_eq_some_iff.1 hk).1 (fun e => by
    obtain ⟨h1, cs, t, z, h2, h3⟩ := hr k e.symm
    rw [h2] at hk
    cases hk
    rcases hc with ⟨_, hc⟩ | ⟨hc, _⟩
    · have := hc cs t z rfl
      rw [h3] at this
      cases this
    · exact h1 hc)).trans hk⟩
theorem KeepsT.block {X : Nat → Prop} {D : Nat} {T : TypeId → Bool} {A A' : World} (h : KeepsT X D T A A') {k : Nat} {cs : Array Value} {t : TypeId} {z : Nat × Nat} (hk : A.heap[k]? = some (.cells cs t z)) (hc : X k ∨ (D ≤ k ∧ T t = false)) : A'.heap[k]? = some (.cells cs t z) :=
  h.same k _ hk (by
    rcases hc with hc | ⟨h1, h2⟩
    · exact .inr ⟨hc, rfl⟩
    · exact .inl ⟨h1, fun _ _ _ e => by cases e; exact h2⟩)
theorem KeepsT.cell {X : Nat → Prop} {D : Nat} {T : TypeId → Bool} {A A' : World} (h : KeepsT X D T A A') {a : Addr} {u : Value} (hb : X a.block) (hc : A.cell? a = some u) : A'.cell? a = some u := by
  obtain ⟨o, h1, h2⟩ := cells_of_cell hc
  rw [World.cell?_of_block ((h.same _ _ h1 (.inr ⟨hb, h2⟩)).trans h1.symm)]
  exact hc
/-- .. and one block more, of a type that a round lets lie. -/
theorem KeepsT.also {X : Nat → Prop} {D D' : Nat} {T : TypeId → Bool} {A A' : World} {b : Nat} {vs : List Value} {t : TypeId} (h : KeepsT X D T A A') (hb : Blk A b vs t) (hD : D ≤ b) (ht : T t = false) (hD' : D ≤ D') : KeepsT (fun k => X k ∨ k = b) D' T A A' :=
  ⟨h.size, fun k o hk hc => h.same k o hk (by
    rcases hc with ⟨h1, h2⟩ | ⟨h1 | rfl, h2⟩
    · exact .inl ⟨by omega, h2⟩
    · exact .inr ⟨h1, h2⟩
    · refine .inl ⟨hD, fun cs t' z e => ?_⟩
      have := hb.symm.trans hk
      rw [e] at this
      cases this
      exact ht)⟩
theorem KeepsT.blk {X : Nat → Prop} {D : Nat} {T : TypeId → Bool} {A A' : World} {b : Nat} {vs : List Value} {t : TypeId} (h : KeepsT X D T A A') (hb : Blk A b vs t) (hc : X b ∨ (D ≤ b ∧ T t = false)) : Blk A' b vs t := h.block hb hc
theorem StaysC.and {β : Type} {B : Nat} {I I' : β → World → Prop} (h : StaysC B I) (h' : StaysC B I') : StaysC B (fun s W => I s W ∧ I' s W) := fun s W W' row hs hg hr => ⟨h s W W' row hs.1 hg hr, h' s W W' row hs.2 hg hr⟩
theorem StaysC.mono {β : Type} {B B' : Nat} {I : β → World → Prop} (h : StaysC B I) (hB : B ≤ B') : StaysC B' I := fun s W W' row hs hg hr => h s W W' row hs hg (fun r e => ⟨Nat.le_trans hB (hr r e).1, (hr r e).2⟩)
theorem StaysC.map {β γ : Type} {B : Nat} {I : β → World → Prop} (f : γ → β) (h : StaysC B I) : StaysC B (fun s W => I (f s) W) := fun s W W' row hs hg hr => h (f s) W W' row hs hg hr
theorem StaysC.pure {β : Type} (B : Nat) (p : β → Prop) : StaysC B (fun s (_ : World) => p s) := fun _ _ _ _ hs _ _ => hs
/-- A block of cells stays when blocks of no cells are turned. -/
theorem stays_cells {β : Type} (B b : Nat) (vs : List Value) (t : TypeId) : StaysC B (fun (_ : β) W => Blk W b vs t) := fun _ _ _ _ h hg hr => h.grown hg (fun e => by
  obtain ⟨_, o, ho, hc⟩ := hr _ e.symm
  rw [show _ = _ from h] at ho
  cases ho
  cases hc)
/-- The iterator g with its captured lb: the elements xs have S; where it is stopped the elements have Sp. -/
def SeqSt {α : Type} (P : Program) (g : Nat) (lb : Array Value) (encs : α → Array Value) (S Sp : List α → Prop) (X : Nat → Prop) (T : TypeId → Bool) (w : World) : Prop :=
  ∀ (l : Nat) (J Jx : List α → World → Prop) (W : World), Below w.heap.size w W → StaysC W.heap.size J → StaysC W.heap.size Jx →
    (∀ pre x W1, J pre W1 → Sp (pre ++ [x]) → YieldAt Fence.wide 0 P l (encs x) W1 fun e W' => KeepsT X W.heap.size T W1 W' ∧
      ((e = .returned (.bool true) ∧ J (pre ++ [x]) W') ∨ (e = .returned (.bool false) ∧ Jx (pre ++ [x]) W'))) →
    J [] W →
    CallsIn Fence.wide 0 P g (#[.func (.yield l) #[] #[]] ++ lb) W fun e W' => (∃ v, e = .returned v) ∧ ((∃ xs, S xs ∧ J xs W') ∨ (∃ xs, Sp xs ∧ Jx xs W'))
theorem SeqSt.low {α : Type} {P : Program} {g : Nat} {lb : Array Value} {encs : α → Array Value} {S Sp : List α → Prop} {X : Nat → Prop} {T : TypeId → Bool} {w w' : World} (h : SeqSt P g lb encs S Sp X T w) (hb : Below w.heap.size w w') : SeqSt P g lb encs S Sp X T w' :=
  fun l J Jx W hW => h l J Jx W (hb.trans (hW.mono hb.size))
/-- How a round may be left. -/
def ownPostT {α : Type} (X : Nat → Prop) (D : Nat) (T : TypeId → Bool) (I : List α → World → Prop) (Ix : Code → List α → World → Prop) (xs : List α) (W : World) : Exit → Act → World → Prop
  | .normal, _, W' => KeepsT X D T W W' ∧ I xs W'
  | .ret, _, W' => KeepsT X D T W W' ∧ Ix .ret xs W'
  | .exit id, _, W' => KeepsT X D T W W' ∧ Ix (.exit id) xs W'
  | .goto t, _, W' => KeepsT X D T W W' ∧ Ix (.goto t) xs W'
  | .panic _, _, _ => False
  | .outgrown, _, _ => False
set_option maxHeartbeats 1000000 in
/-- The law for the caller: I holds between the rounds; a round that stops leaves Ix with its way out; what the assignment leaves: Ax. -/
theorem wpIn_rangeSt {α : Type} {P : Program} {g : Operand} {ps : Array Tmp} {assign body : Code} {Q : Exit → Act → World → Prop} {a : Act} {w : World} {gf : Nat} {lb : Array Value}
    (hg : a.eval g = .func (.func gf) #[] lb) (eg : ∀ args w, (callFunc gf args).run P w = .ok (.enter gf args) w)
    {encs : α → Array Value} {S Sp : List α → Prop} {X : Nat → Prop} {T : TypeId → Bool} (hseq : SeqSt P gf lb encs S Sp X T w) (hps : ∀ x, (encs x).size = ps.size)
    (I : List α → World → Prop) (Ix : Code → List α → World → Prop) (hI : StaysC w.heap.size I) (hIx : ∀ c, StaysC w.heap.size (Ix c)) (h0 : I [] w) (Ax : α → Act → World → Prop) (hAx : ∀ x a', StaysC w.heap.size (fun (_ : Unit) W => Ax x a' W))
    (hassign : ∀ (l : Nat) (pre : List α) (x : α) (W : World) (K : Act → World → Prop), I pre W → Sp (pre ++ [x]) → (∀ a' W', KeepsT X w.heap.size T W W' → I pre W' → Ax x a' W' → K a' W') →
      assign.wpIn (Fence.wide.inRound l) 0 P (Exit.then K (fun _ _ _ => False)) { tmps := (ps.zip (encs x)).foldl (fun t (p, v) => t.setIfInBounds p v) a.tmps, defers := [] } W)
    (hbody : ∀ (l : Nat) (pre : List α) (x : α) (a' : Act) (W : World), I pre W → Ax x a' W → Sp (pre ++ [x]) → body.wpIn (Fence.wide.inRound l) 0 P (ownPostT X w.heap.size T I Ix (pre ++ [x]) W) a' W)
    (hdone : ∀ (D : Nat) (xs : List α) (W : World), w.heap.size ≤ D → S xs → I xs W → W.heap[D]? = some (.deferred (some [])) → Q .normal { a with defers := { target := .collected D, args := #[] } :: a.defers } W)
    (hstop : ∀ (D : Nat) (c : Code) (xs : List α) (W : World), w.heap.size ≤ D → Sp xs → Ix c xs W → W.heap[D]? = some (.deferred (some [])) → c.wpIn Fence.wide 1 P Q { a with defers := { target := .collected D, args := #[] } :: a.defers } W) :
    (Code.rangeFunc g ps assign body).wpIn Fence.wide 1 P Q a w := by
  refine wpIn_rangeFunc fun fn hfn => ?_
  have hex : ∃ R : LoopState → Option Code → Loop, R = fun st pe => { state := st, pending := pe, fn, tmps := a.tmps, params := ps, assign, body, defers := w.heap.size } := ⟨_, rfl⟩
  obtain ⟨R, hR⟩ := hex
  have hw1 : ∃ W1, W1 = (w.alloc (.deferred (some []))).alloc (.loop (R .ready none)) := ⟨_, rfl⟩
  obtain ⟨W1, hW1⟩ := hw1
  have hb1 : Below w.heap.size w W1 := by
    rw [hW1]
    exact (below_new w _).alloc (by simp) _
  have hs1 : W1.heap.size = w.heap.size + 2 := by rw [hW1]; simp
  have hL1 : W1.heap[w.heap.size + 1]? = some (.loop (R .ready none)) := by
    rw [hW1]
    have := World.alloc_heap_new (w.alloc (.deferred (some []))) (.loop (R .ready none))
    rwa [World.size_alloc] at this
  have hK1 : W1.heap[w.heap.size]? = some (.deferred (some [])) := by
    rw [hW1]
    exact (Below.heap_alloc _ _ _ (by simp)).trans (World.alloc_heap_new w _)
  have hI1 : I [] W1 := hI.low h0 hb1
  have hkeep : ∀ {A A' : World} {row : Option Nat} {k : Nat} {o : Obj}, A.grownBy A' row → (∀ r, row = some r → W1.heap.size ≤ r ∧ ∃ o : Obj, A.heap[r]? = some o ∧ o.isCells = false) → k < w.heap.size + 2 → A.heap[k]? = some o → A'.heap[k]? = some o :=
    fun hg' hr hk h => (hg'.block _ (Array.getElem?_eq_some_iff.1 h).1 (fun e => by have := (hr _ e.symm).1; omega)).trans h
  refine ⟨w.heap.size + 1, [{ target := .collected w.heap.size, args := #[] }], W1, { target := .fn (.func gf) lb, args := #[.func (.yield (w.heap.size + 1)) #[] #[]] }, W1, gf,
    #[.func (.yield (w.heap.size + 1)) #[] #[]] ++ lb, W1, ?_, ?_, fun _ _ => trivial, ?_, fun h => absurd h (by simp [Fence.wide]), ?_⟩
  · rw [hW1, hR]
    exact run_enterLoop_outer _ _ _ _ _
  · simp only [resolve, hg]
    simp [go_sem]
  · simp [invoke, go_sem, eg]
  refine (hseq (w.heap.size + 1) (fun pre W => I pre W ∧ W.heap[w.heap.size + 1]? = some (.loop (R .ready none)) ∧ W.heap[w.heap.size]? = some (.deferred (some [])))
    (fun pre W => ∃ c, Ix c pre W ∧ W.heap[w.heap.size + 1]? = some (.loop (R .done (some c))) ∧ W.heap[w.heap.size]? = some (.deferred (some [])))
    W1 hb1
    (fun s A A' row hs hg' hr => ⟨hI s A A' row hs.1 hg' (fun r e => ⟨by have := (hr r e).1; omega, (hr r e).2⟩), hkeep hg' hr (by omega) hs.2.1, hkeep hg' hr (by omega) hs.2.2⟩)
    (fun s A A' row ⟨c, h1, h2, h3⟩ hg' hr => ⟨c, hIx c s A A' row h1 hg' (fun r e => ⟨by have := (hr r e).1; omega, (hr r e).2⟩), hkeep hg' hr (by omega) h2, hkeep hg' hr (by omega) h3⟩)
    ?_ ⟨hI1, hL1, hK1⟩).mono ?_
  · rintro pre x W ⟨hi, hl, hk⟩ hsp
    have hy := run_yield (P := P) (args := encs x) hl (by rw [hR]; exact hps x)
    rw [hR] at hy
    refine ⟨fn, _, assign, body, hy, roundIn_of_wpIn hfn (hassign _ pre x W _ hi hsp (fun aa Wa hka hia hax => ?_))⟩
    have hla := hka.same _ _ hl (.inl ⟨by omega, fun _ _ _ e => by cases e⟩)
    have hkk := hka.same _ _ hk (.inl ⟨Nat.le_refl _, fun _ _ _ e => by cases e⟩)
    have hlt : w.heap.size + 1 < Wa.heap.size := (Array.getElem?_eq_some_iff.1 hla).1
    refine ⟨_, run_beginRound hla (by rw [hR]), ?_⟩
    have hl2 : (Wa.putObj (w.heap.size + 1) (.loop { R .ready none with state := .busy })).heap[w.heap.size + 1]? = some (.loop { R .ready none with state := .busy }) := World.putObj_heap_same hlt
    have hk2 : (Wa.putObj (w.heap.size + 1) (.loop { R .ready none with state := .busy })).heap[w.heap.size]? = some (.deferred (some [])) := (World.putObj_heap_other (by omega)).trans hkk
    refine wpIn_mono (hbody _ pre x _ _ (hI.put _ hia (by omega) hla rfl) ((hAx x aa).put (s := ()) _ hax (by omega) hla rfl) hsp) ?_
    have fin : ∀ (jump : Option Code) (W3 : World), KeepsT X w.heap.size T (Wa.putObj (w.heap.size + 1) (.loop { R .ready none with state := .busy })) W3 →
        (Instr.endRound (w.heap.size + 1) jump).run P W3 = .ok (.bool jump.isNone) (W3.putObj (w.heap.size + 1) (.loop (R (if jump.isNone then .ready else .done) jump))) ∧
        W3.heap[w.heap.size + 1]? = some (.loop { R .ready none with state := .busy }) ∧
        (W3.putObj (w.heap.size + 1) (.loop (R (if jump.isNone then .ready else .done) jump))).heap[w.heap.size + 1]? = some (.loop (R (if jump.isNone then .ready else .done) jump)) ∧
        (W3.putObj (w.heap.size + 1) (.loop (R (if jump.isNone then .ready else .done) jump))).heap[w.heap.size]? = some (.deferred (some [])) ∧
        KeepsT X W1.heap.size T W (W3.putObj (w.heap.size + 1) (.loop (R (if jump.isNone then .ready else .done) jump))) := fun jump W3 hk3 => by
      have hl3 := hk3.same _ _ hl2 (.inl ⟨by omega, fun _ _ _ e => by cases e⟩)
      have := run_endRound (P := P) jump hl3
      rw [hR] at this ⊢
      refine ⟨this, by rw [hR] at hl3; exact hl3, World.putObj_heap_same (Array.getElem?_eq_some_iff.1 hl3).1, (World.putObj_heap_other (by omega)).trans (hk3.same _ _ hk2 (.inl ⟨Nat.le_refl _, fun _ _ _ e => by cases e⟩)), ?_⟩
      refine ⟨by have := hk3.size; have := hka.size; simp at *; omega, fun k o hko hc => ?_⟩
      have hne : k ≠ w.heap.size + 1 := fun e => by
        rcases hc with ⟨h1, _⟩ | ⟨_, h1⟩
        · omega
        · rw [e, hl] at hko
          cases hko
          cases h1
      have hc' : (w.heap.size ≤ k ∧ ∀ cs t z, o = .cells cs t z → T t = false) ∨ (X k ∧ o.isCells = true) := by
        rcases hc with ⟨h1, h2⟩ | h
        · exact .inl ⟨by omega, h2⟩
        · exact .inr h
      rw [World.putObj_heap_other hne]
      rw [hR] at hk3
      exact hk3.same k o ((World.putObj_heap_other hne).trans (hka.same k o hko hc')) hc'
    have stop : ∀ (c : Code) (W3 : World), KeepsT X w.heap.size T (Wa.putObj (w.heap.size + 1) (.loop { R .ready none with state := .busy })) W3 → Ix c (pre ++ [x]) W3 →
        ∃ v w', (Instr.endRound (w.heap.size + 1) (some c)).run P W3 = .ok v w' ∧ KeepsT X W1.heap.size T W w' ∧
          ((Ending.returned v = .returned (.bool true) ∧ (I (pre ++ [x]) w' ∧ w'.heap[w.heap.size + 1]? = some (.loop (R .ready none)) ∧ w'.heap[w.heap.size]? = some (.deferred (some [])))) ∨
           (Ending.returned v = .returned (.bool false) ∧ ∃ c, Ix c (pre ++ [x]) w' ∧ w'.heap[w.heap.size + 1]? = some (.loop (R .done (some c))) ∧ w'.heap[w.heap.size]? = some (.deferred (some [])))) := fun c W3 hk3 hx => by
      obtain ⟨h1, h2, h3, h4, h5⟩ := fin (some c) W3 hk3
      exact ⟨_, _, h1, h5, .inr ⟨rfl, c, (hIx c).put _ hx (by omega) h2 rfl, h3, h4⟩⟩
    intro e a3 W3 hp
    cases e with
    | normal =>
      obtain ⟨hk3, hi3⟩ := hp
      obtain ⟨h1, h2, h3, h4, h5⟩ := fin none W3 hk3
      exact ⟨_, _, h1, h5, .inl ⟨rfl, ⟨hI.put _ hi3 (by omega) h2 rfl, h3, h4⟩⟩⟩
    | ret => exact stop _ W3 hp.1 hp.2
    | exit id => exact stop _ W3 hp.1 hp.2
    | goto t => exact stop _ W3 hp.1 hp.2
    | panic ch => exact hp.elim
    | outgrown => exact hp.elim
  · rintro e W2 ⟨⟨v, rfl⟩, (⟨xs, hS, hi, hl, hk⟩ | ⟨xs, hSp, c, hi, hl, hk⟩)⟩
    · have := run_endLoop (P := P) hl (by rw [hR]; simp)
      rw [hR] at this
      exact ⟨none, _, this, hdone _ xs _ (Nat.le_refl _) hS (hI.put _ hi (by omega) hl rfl) ((World.putObj_heap_other (by omega)).trans hk)⟩
    · have := run_endLoop (P := P) hl (by rw [hR]; simp)
      rw [hR] at this
      exact ⟨some c, _, this, hstop _ c xs _ (Nat.le_refl _) hSp ((hIx c).put _ hi (by omega) hl rfl) ((World.putObj_heap_other (by omega)).trans hk)⟩
/-- A range over a function whose early way out leads where its end leads. -/
theorem wpIn_rangeStOne {α : Type} {P : Program} {g : Operand} {ps : Array Tmp} {assign body : Code} {Q : Exit → Act → World → Prop} {a : Act} {w : World} {gf : Nat} {lb : Array Value}
    (hg : a.eval g = .func (.func gf) #[] lb) (eg : ∀ args w, (callFunc gf args).run P w = .ok (.enter gf args) w)
    {encs : α → Array Value} {S Sp : List α → Prop} {X : Nat → Prop} {T : TypeId → Bool} (hseq : SeqSt P gf lb encs S Sp X T w) (hps : ∀ x, (encs x).size = ps.size)
    (I : List α → World → Prop) (Ix : Code → List α → World → Prop) (hI : StaysC w.heap.size I) (hIx : ∀ c, StaysC w.heap.size (Ix c)) (h0 : I [] w)
    (id : Nat) (Fin : List α → World → Prop) (hfin : ∀ xs W, S xs → I xs W → Fin xs W) (hfix : ∀ c xs W, Sp xs → Ix c xs W → c = .exit id ∧ Fin xs W) (hqe : ∀ a w, Q .normal a w → Q (.exit id) a w)
    (Ax : α → Act → World → Prop) (hAx : ∀ x a', StaysC w.heap.size (fun (_ : Unit) W => Ax x a' W))
    (hassign : ∀ (l : Nat) (pre : List α) (x : α) (W : World) (K : Act → World → Prop), I pre W → Sp (pre ++ [x]) → (∀ a' W', KeepsT X w.heap.size T W W' → I pre W' → Ax x a' W' → K a' W') →
      assign.wpIn (Fence.wide.inRound l) 0 P (Exit.then K (fun _ _ _ => False)) { tmps := (ps.zip (encs x)).foldl (fun t (p, v) => t.setIfInBounds p v) a.tmps, defers := [] } W)
    (hbody : ∀ (l : Nat) (pre : List α) (x : α) (a' : Act) (W : World), I pre W → Ax x a' W → Sp (pre ++ [x]) → body.wpIn (Fence.wide.inRound l) 0 P (ownPostT X w.heap.size T I Ix (pre ++ [x]) W) a' W)
    (hrest : ∀ (D : Nat) (xs : List α) (W : World), w.heap.size ≤ D → Fin xs W → W.heap[D]? = some (.deferred (some [])) → Q .normal { a with defers := { target := .collected D, args := #[] } :: a.defers } W) :
    (Code.rangeFunc g ps assign body).wpIn Fence.wide 1 P Q a w := by
  refine wpIn_rangeSt (S := S) (Sp := Sp) hg eg hseq hps I Ix hI hIx h0 Ax hAx hassign hbody (fun D xs W h1 h2 h3 h4 => hrest D xs W h1 (hfin xs W h2 h3) h4) (fun D c xs W h1 h2 h3 h4 => ?_)
  obtain ⟨rfl, hf⟩ := hfix c xs W h2 h3
  exact wpIn_exit (hqe _ _ (hrest D xs W h1 hf h4))
/-- .. where the assignment touches no memory. -/
theorem wpIn_rangeStA {α : Type} {P : Program} {g : Operand} {ps : Array Tmp} {assign body : Code} {Q : Exit → Act → World → Prop} {a : Act} {w : World} {gf : Nat} {lb : Array Value}
    (hg : a.eval g = .func (.func gf) #[] lb) (eg : ∀ args w, (callFunc gf args).run P w = .ok (.enter gf args) w)
    {encs : α → Array Value} {S Sp : List α → Prop} {X : Nat → Prop} {T : TypeId → Bool} (hseq : SeqSt P gf lb encs S Sp X T w) (hps : ∀ x, (encs x).size = ps.size)
    (I : List α → World → Prop) (Ix : Code → List α → World → Prop) (hI : StaysC w.heap.size I) (hIx : ∀ c, StaysC w.heap.size (Ix c)) (h0 : I [] w)
    (id : Nat) (Fin : List α → World → Prop) (hfin : ∀ xs W, S xs → I xs W → Fin xs W) (hfix : ∀ c xs W, Sp xs → Ix c xs W → c = .exit id ∧ Fin xs W) (hqe : ∀ a w, Q .normal a w → Q (.exit id) a w)
    (a₁ : α → Act)
    (hassign : ∀ (l : Nat) (x : α) (W : World) (K : Act → World → Prop), K (a₁ x) W →
      assign.wpIn (Fence.wide.inRound l) 0 P (Exit.then K (fun _ _ _ => False)) { tmps := (ps.zip (encs x)).foldl (fun t (p, v) => t.setIfInBounds p v) a.tmps, defers := [] } W)
    (hbody : ∀ (l : Nat) (pre : List α) (x : α) (W : World), I pre W → Sp (pre ++ [x]) → body.wpIn (Fence.wide.inRound l) 0 P (ownPostT X w.heap.size T I Ix (pre ++ [x]) W) (a₁ x) W)
    (hrest : ∀ (D : Nat) (xs : List α) (W : World), w.heap.size ≤ D → Fin xs W → W.heap[D]? = some (.deferred (some [])) → Q .normal { a with defers := { target := .collected D, args := #[] } :: a.defers } W) :
    (Code.rangeFunc g ps assign body).wpIn Fence.wide 1 P Q a w :=
  wpIn_rangeStOne hg eg hseq hps I Ix hI hIx h0 id Fin hfin hfix hqe (fun x a' _ => a' = a₁ x) (fun _ _ => StaysC.pure _ _)
    (fun l _ x W K hI _ hK => hassign l x W K (hK _ _ (KeepsT.refl _ _ _ _) hI rfl)) (fun l pre x _ W h1 h2 h3 => by subst h2; exact hbody l pre x W h1 h3) hrest
end Go.Port
namespace Go.Port
open Go.RowKit
/-- A' is A but for the blocks from lo on below hi. -/
structure Mid (lo hi : Nat) (A A' : World) : Prop where
  os : A'.os = A.os
  tape : A'.tape = A.tape
  output : A'.output = A.output
  size : A'.heap.size = A.heap.size
  same : ∀ k, (k < lo ∨ hi ≤ k) → A'.heap[k]? = A.heap[k]?
theorem Mid.refl (lo hi : Nat) (A : World) : Mid lo hi A A := ⟨rfl, rfl, rfl, rfl, fun _ _ => rfl⟩
theorem Mid.set {lo hi : Nat} {A A' : World} (h : Mid lo hi A A') {a : Addr} (h1 : lo ≤ a.block) (h2 : a.block < hi) (u : Value) : Mid lo hi A (A'.setCell a u) :=
  ⟨h.os, h.tape, h.output, (by show (A'.heap.modify _ _).size = _; rw [Array.size_modify]; exact h.size), fun k hk => (Below.heap_setCell A' a u k (by omega)).trans (h.same k hk)⟩
theorem Mid.blk {lo hi : Nat} {A A' : World} (h : Mid lo hi A A') {b : Nat} {vs : List Value} {t : TypeId} (hb : Blk A b vs t) (hk : b < lo ∨ hi ≤ b) : Blk A' b vs t := (h.same b hk).trans hb
theorem Mid.own {lo hi : Nat} {A A' : World} (h : Mid lo hi A A') {base sz n : Nat} {e : TypeId} {v : Value} {xs : List Value} (ho : A.ownsRow base e sz v n xs) (hb : hi ≤ base) : A'.ownsRow base e sz v n xs := by
  obtain ⟨h1, h2⟩ := ho
  rcases h2 with h2 | ⟨g, cap, cur, hv, h3, h4, h5⟩
  · exact ⟨h1, .inl h2⟩
  · exact ⟨h1, .inr ⟨g, cap, cur, hv, h3, (h.same g (.inr (by omega))).trans h4, h5⟩⟩
theorem Mid.below {lo hi : Nat} {A A' : World} (h : Mid lo hi A A') : Below lo A A' := ⟨h.os, h.tape, h.output, by rw [h.size]; exact Nat.le_refl _, fun k hk => h.same k (.inl hk)⟩
/-- A block of at least n cells. -/
def CellBlk (W : World) (C n : Nat) (t : TypeId) : Prop := ∃ cs, Blk W C cs t ∧ n ≤ cs.length
theorem CellBlk.set {W : World} {C n : Nat} {t : TypeId} (h : CellBlk W C n t) (k : Nat) (u : Value) : CellBlk (W.setCell ⟨C, k, none⟩ u) C n t := by
  obtain ⟨cs, h1, h2⟩ := h
  exact ⟨_, h1.set k u, by simpa using h2⟩
theorem CellBlk.other {W : World} {C n : Nat} {t : TypeId} (h : CellBlk W C n t) {a : Addr} (u : Value) (ha : a.block ≠ C) : CellBlk (W.setCell a u) C n t := by
  obtain ⟨cs, h1, h2⟩ := h
  exact ⟨cs, h1.other u ha, h2⟩
theorem CellBlk.low {W W' : World} {C n : Nat} {t : TypeId} (h : CellBlk W C n t) (hb : Below W.heap.size W W') : CellBlk W' C n t := by
  obtain ⟨cs, h1, h2⟩ := h
  exact ⟨cs, h1.below hb h1.lt, h2⟩
theorem CellBlk.lt {W : World} {C n : Nat} {t : TypeId} (h : CellBlk W C n t) : C < W.heap.size := by
  obtain ⟨cs, h1, h2⟩ := h
  exact h1.lt
theorem CellBlk.at {W : World} {C n : Nat} {t : TypeId} (h : CellBlk W C n t) {k : Nat} (hk : k < n) : ∃ u, W.cell? ⟨C, k, none⟩ = some u ∧ W.frozen? ⟨C, k, none⟩ = false := by
  obtain ⟨cs, h1, h2⟩ := h
  exact ⟨_, h1.cell (List.getElem?_eq_getElem (by omega)), h1.frozen k⟩
theorem CellBlk.any {W : World} {C n : Nat} {t : TypeId} (h : CellBlk W C n t) (C' k : Nat) (u : Value) : CellBlk (W.setCell ⟨C', k, none⟩ u) C n t := by
  by_cases e : C' = C
  · subst e
    exact h.set k u
  · exact h.other u e
theorem CellBlk.of_own {W : World} {base n : Nat} {t : TypeId} {v : Value} {a : Option Addr} {c : Nat} {xs : List Value} (h : W.ownsRow base t 1 v n xs) (h0 : 0 < n) (hv : v = .slice a n c) : ∃ C, a = some ⟨C, 0, none⟩ ∧ base ≤ C ∧ CellBlk W C n t := by
  obtain ⟨g, cap, cs, e, hb, h1, h2, hblk, ht⟩ := own_blk h h0
  rw [hv] at e
  cases e
  refine ⟨g, rfl, hb, cs, hblk, ?_⟩
  have hl : (cs.take (n * 1)).length = n * 1 := by rw [ht]; exact h.1
  rw [List.length_take] at hl
  omega
section
variable {α : Type}
/-- Between two rounds of a turn: the number of rounds lies in the block that was new. -/
structure ITc (wb : World) (t3 : TypeId) (many : Int) (first : Bool) (xs : List α) (W : World) : Prop where
  n : Blk W wb.heap.size [.int .i64 (xs.length : Int)] t3
  low : Below wb.heap.size wb W
  go : first = true → xs.length = 0 ∨ (xs.length : Int) < many
structure IXc (wb : World) (t3 : TypeId) (many : Int) (first : Bool) (id : Nat) (c : Code) (xs : List α) (W : World) : Prop where
  n : Blk W wb.heap.size [.int .i64 (xs.length : Int)] t3
  low : Below wb.heap.size wb W
  c : c = .exit id
  first : first = true
  pos : 0 < xs.length
  at' : many ≤ (xs.length : Int)
  was : xs.length = 1 ∨ (xs.length : Int) - 1 < many
structure FTc (wb : World) (t3 : TypeId) (many : Int) (first : Bool) (N : Nat) (xs : List α) (W : World) : Prop where
  n : Blk W wb.heap.size [.int .i64 (xs.length : Int)] t3
  low : Below wb.heap.size wb W
  one : first = true → (xs.length : Int) = min (N : Int) (max 1 many)
  two : first = false → xs.length = N
theorem ITc.stays (wb : World) (t3 : TypeId) (many : Int) (first : Bool) {B : Nat} (hB : wb.heap.size < B) : StaysC B (ITc (α := α) wb t3 many first) := fun _ _ _ _ h hg hr =>
  ⟨h.n.grown hg (fun e => by have := (hr _ e.symm).1; omega), h.low.grown hg h.low.size (fun k hk => by have := (hr _ hk).1; omega), h.go⟩
theorem IXc.stays (wb : World) (t3 : TypeId) (many : Int) (first : Bool) (id : Nat) (c : Code) {B : Nat} (hB : wb.heap.size < B) : StaysC B (IXc (α := α) wb t3 many first id c) := fun _ _ _ _ h hg hr =>
  ⟨h.n.grown hg (fun e => by have := (hr _ e.symm).1; omega), h.low.grown hg h.low.size (fun k hk => by have := (hr _ hk).1; omega), h.c, h.first, h.pos, h.at', h.was⟩
theorem ITc.fin {wb : World} {t3 : TypeId} {many : Int} {first : Bool} {l : List α} (xs : List α) (W : World) (hS : xs = l) (h : ITc wb t3 many first xs W) : FTc wb t3 many first l.length xs W := by
  subst hS
  refine ⟨h.n, h.low, fun hf => ?_, fun _ => rfl⟩
  have := h.go hf
  omega
theorem IXc.fin {wb : World} {t3 : TypeId} {many : Int} {first : Bool} {id : Nat} {l : List α} (c : Code) (xs : List α) (W : World) (hS : ∃ rest, xs ++ rest = l) (h : IXc wb t3 many first id c xs W) : c = .exit id ∧ FTc wb t3 many first l.length xs W := by
  obtain ⟨rest, rfl⟩ := hS
  have h3 := h.pos
  have h5 := h.at'
  have h6 := h.was
  refine ⟨h.c, h.n, h.low, fun _ => ?_, fun hf => by rw [h.first] at hf; cases hf⟩
  rw [List.length_append]
  omega
/-- A round has counted. -/
theorem ITc.round {wb W : World} {t3 : TypeId} {many : Int} {first : Bool} {pre : List α} (h : ITc wb t3 many first pre W) (x : α) (T : TypeId → Bool) (q : Nat) (u : Value) (hu : u = .int .i64 ((pre.length : Int) + 1)) :
    let W' := (W.drewN q).setCell ⟨wb.heap.size, 0, none⟩ u
    KeepsT (fun k => k < wb.heap.size) (wb.heap.size + 1) T W W' ∧ Blk W' wb.heap.size [.int .i64 (((pre ++ [x]).length : Nat) : Int)] t3 ∧ Below wb.heap.size wb W' := by
  subst hu
  dsimp only
  have e1 : ((pre ++ [x]).length : Int) = (pre.length : Int) + 1 := by simp
  refine ⟨(KeepsT.drew q).trans (KeepsT.set _ ⟨wb.heap.size, 0, none⟩ _ (by simp) (by simp)), ?_, ?_⟩
  · rw [e1]
    exact Blk.set (w := W.drewN q) h.n 0 _
  · exact (below_drewN h.low q).setCell (p := ⟨wb.heap.size, 0, none⟩) (Nat.le_refl _) _
theorem ITc.exit {wb W : World} {t3 : TypeId} {many : Int} {id : Nat} {pre : List α} {x : α} (hn : Blk W wb.heap.size [.int .i64 (((pre ++ [x]).length : Nat) : Int)] t3) (hb : Below wb.heap.size wb W) (h4 : pre.length = 0 ∨ (pre.length : Int) < many) (hm : many ≤ (pre.length : Int) + 1) : IXc wb t3 many true id (.exit id) (pre ++ [x]) W := by
  refine ⟨hn, hb, rfl, rfl, ?_, ?_, ?_⟩ <;> simp only [List.length_append, List.length_cons, List.length_nil] <;> omega
theorem ITc.next {wb W : World} {t3 : TypeId} {many : Int} {first : Bool} {pre : List α} {x : α} (hn : Blk W wb.heap.size [.int .i64 (((pre ++ [x]).length : Nat) : Int)] t3) (hb : Below wb.heap.size wb W) (hm : (pre.length : Int) + 1 < many) : ITc wb t3 many first (pre ++ [x]) W :=
  ⟨hn, hb, fun _ => .inr (by simp only [List.length_append, List.length_cons, List.length_nil]; omega)⟩
end
end Go.Port
