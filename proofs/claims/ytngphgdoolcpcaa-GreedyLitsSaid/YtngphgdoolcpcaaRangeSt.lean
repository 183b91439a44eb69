/-
  A law of our own for a range over a function, where iterators may stand on iterators: what a round keeps is said block by block (below B: the cells; from D on: all but cells of certain types). Over no program.
-/
import Derived.Test.YtngphgdoolcpcaaBase
import Derived.RangeFuncFrom
import Derived.RangeFuncLeaves
import Derived.RangeFuncWrites
namespace Go.Port
open Go.RowKit

/-- Stays when memory grows, and when a block from B on that holds no cells is turned. -/
def StaysC {β : Type} (B : Nat) (I : β → World → Prop) : Prop :=
  ∀ s W W' row, I s W → W.grownBy W' row → (∀ r, row = some r → B ≤ r ∧ ∃ o : Obj, W.heap[r]? = some o ∧ o.isCells = false) → I s W'
theorem StaysC.put {β : Type} {B : Nat} {I : β → World → Prop} (h : StaysC B I) {s : β} {W : World} {l : Nat} {o : Obj} (o' : Obj) (hs : I s W) (hB : B ≤ l) (hl : W.heap[l]? = some o) (ho : o.isCells = false) : I s (W.putObj l o') :=
  h s W _ (some l) hs (grownBy_putObj' W l o') (fun r e => by cases e; exact ⟨hB, o, hl, ho⟩)
theorem grown_of_low {A B : World} (h : Below A.heap.size A B) : A.grownBy B none := ⟨h.os, h.tape, h.output, h.size, fun k hk _ => h.block k hk⟩
theorem StaysC.low {β : Type} {B : Nat} {I : β → World → Prop} (h : StaysC B I) {s : β} {W W' : World} (hs : I s W) (hb : Below W.heap.size W W') : I s W' := h s W W' none hs (grown_of_low hb) (fun r e => by cases e)
theorem at_low' {W W' : World} (hb : Below W.heap.size W W') {k : Nat} {o : Obj} (h : W.heap[k]? = some o) : W'.heap[k]? = some o := (hb.block k (Array.getElem?_eq_some_iff.1 h).1).trans h

/-- What a round keeps: every block from D on but cells of a type in T; the cells of the blocks in X. -/
structure KeepsT (X : Nat → Prop) (D : Nat) (T : TypeId → Bool) (A A' : World) : Prop where
  size : A.heap.size ≤ A'.heap.size
  same : ∀ (k : Nat) (o : Obj), A.heap[k]? = some o → (D ≤ k ∧ ∀ cs t z, o = .cells cs t z → T t = false) ∨ (X k ∧ o.isCells = true) → A'.heap[k]? = some o
theorem KeepsT.refl (X : Nat → Prop) (D : Nat) (T : TypeId → Bool) (A : World) : KeepsT X D T A A := ⟨Nat.le_refl _, fun _ _ h _ => h⟩
theorem KeepsT.trans {X : Nat → Prop} {D : Nat} {T : TypeId → Bool} {A A1 A2 : World} (h : KeepsT X D T A A1) (h' : KeepsT X D T A1 A2) : KeepsT X D T A A2 :=
  ⟨Nat.le_trans h.size h'.size, fun k o hk hc => h'.same k o (h.same k o hk hc) hc⟩
theorem KeepsT.low {X : Nat → Prop} {D : Nat} {T : TypeId → Bool} {A A' : World} (h : Below A.heap.size A A') : KeepsT X D T A A' :=
  ⟨h.size, fun k _ hk _ => (h.block k (Array.getElem?_eq_some_iff.1 hk).1).trans hk⟩
theorem KeepsT.drew {X : Nat → Prop} {D : Nat} {T : TypeId → Bool} {A : World} (n : Nat) : KeepsT X D T A (A.drewN n) := ⟨Nat.le_refl _, fun _ _ h _ => h⟩
/-- A store into a block below D that is not in X. -/
theorem KeepsT.set {X : Nat → Prop} {D : Nat} {T : TypeId → Bool} (A : World) (a : Addr) (u : Value) (h1 : ¬ X a.block) (h2 : a.block < D) : KeepsT X D T A (A.setCell a u) :=
  ⟨(KeepsWalks.setCell A a u).size, fun k _ hk hc => (Below.heap_setCell A a u k (fun e => by
    rcases hc with ⟨h, _⟩ | ⟨h, _⟩
    · omega
    · exact h1 (e ▸ h))).trans hk⟩
/-- A row of the round's own has grown. -/
theorem KeepsT.grown {X : Nat → Prop} {D : Nat} {T : TypeId → Bool} {A A' : World} {row : Option Nat} (h : A.grownBy A' row) (hr : ∀ r, row = some r → ¬ X r ∧ ∃ cs t z, A.heap[r]? = some (.cells cs t z) ∧ T t = true) : KeepsT X D T A A' :=
  ⟨h.size, fun k o hk hc => (h.block k (Array.getElem?_eq_some_iff.1 hk).1 (fun e => by
    obtain ⟨h1, cs, t, z, h2, h3⟩ := hr k e.symm
    rw [h2] at hk
    cases hk
    rcases hc with ⟨_, hc⟩ | ⟨hc, _⟩
    · have := hc cs t z rfl
      rw [h3] at this
      cases this
    · exact h1 hc)).trans hk⟩
theorem KeepsT.wider {X X' : Nat → Prop} {D D' : Nat} {T : TypeId → Bool} {A A' : World} (h : KeepsT X D T A A') (hX : ∀ k, X' k → X k) (hD : D ≤ D') : KeepsT X' D' T A A' :=
  ⟨h.size, fun k o hk hc => h.same k o hk (by
    rcases hc with ⟨h1, h2⟩ | ⟨h1, h2⟩
    · exact .inl ⟨by omega, h2⟩
    · exact .inr ⟨hX k h1, h2⟩)⟩
theorem KeepsT.block {X : Nat → Prop} {D : Nat} {T : TypeId → Bool} {A A' : World} (h : KeepsT X D T A A') {k : Nat} {cs : Array Value} {t : TypeId} {z : Nat × Nat} (hk : A.heap[k]? = some (.cells cs t z)) (hc : X k ∨ (D ≤ k ∧ T t = false)) : A'.heap[k]? = some (.cells cs t z) :=
  h.same k _ hk (by
    rcases hc with hc | ⟨h1, h2⟩
    · exact .inr ⟨hc, rfl⟩
    · exact .inl ⟨h1, fun _ _ _ e => by cases e; exact h2⟩)
theorem KeepsT.cell {X : Nat → Prop} {D : Nat} {T : TypeId → Bool} {A A' : World} (h : KeepsT X D T A A') {a : Addr} {u : Value} (hb : X a.block) (hc : A.cell? a = some u) : A'.cell? a = some u := by
  obtain ⟨o, h1, h2⟩ := cells_of_cell hc
  rw [World.cell?_of_block ((h.same _ _ h1 (.inr ⟨hb, h2⟩)).trans h1.symm)]
  exact hc

/-- .. and one block more, of a type that a round lets lie. -/
theorem KeepsT.also {X : Nat → Prop} {D D' : Nat} {T : TypeId → Bool} {A A' : World} {b : Nat} {vs : List Value} {t : TypeId} (h : KeepsT X D T A A') (hb : Blk A b vs t) (hD : D ≤ b) (ht : T t = false) (hD' : D ≤ D') : KeepsT (fun k => X k ∨ k = b) D' T A A' :=
  ⟨h.size, fun k o hk hc => h.same k o hk (by
    rcases hc with ⟨h1, h2⟩ | ⟨h1 | rfl, h2⟩
    · exact .inl ⟨by omega, h2⟩
    · exact .inr ⟨h1, h2⟩
    · refine .inl ⟨hD, fun cs t' z e => ?_⟩
      have := hb.symm.trans hk
      rw [e] at this
      cases this
      exact ht)⟩
theorem KeepsT.blk {X : Nat → Prop} {D : Nat} {T : TypeId → Bool} {A A' : World} {b : Nat} {vs : List Value} {t : TypeId} (h : KeepsT X D T A A') (hb : Blk A b vs t) (hc : X b ∨ (D ≤ b ∧ T t = false)) : Blk A' b vs t := h.block hb hc
theorem stays_blk {β : Type} {B b : Nat} {vs : List Value} {t : TypeId} (hb : b < B) : StaysC B (fun (_ : β) W => Blk W b vs t) := fun _ _ _ _ h hg hr => h.grown hg (fun e => by have := (hr _ e.symm).1; omega)
theorem StaysC.and {β : Type} {B : Nat} {I I' : β → World → Prop} (h : StaysC B I) (h' : StaysC B I') : StaysC B (fun s W => I s W ∧ I' s W) := fun s W W' row hs hg hr => ⟨h s W W' row hs.1 hg hr, h' s W W' row hs.2 hg hr⟩
theorem StaysC.mono {β : Type} {B B' : Nat} {I : β → World → Prop} (h : StaysC B I) (hB : B ≤ B') : StaysC B' I := fun s W W' row hs hg hr => h s W W' row hs hg (fun r e => ⟨Nat.le_trans hB (hr r e).1, (hr r e).2⟩)
theorem StaysC.map {β γ : Type} {B : Nat} {I : β → World → Prop} (f : γ → β) (h : StaysC B I) : StaysC B (fun s W => I (f s) W) := fun s W W' row hs hg hr => h (f s) W W' row hs hg hr
theorem StaysC.pure {β : Type} (B : Nat) (p : β → Prop) : StaysC B (fun s (_ : World) => p s) := fun _ _ _ _ hs _ _ => hs
/-- A block of cells stays when blocks of no cells are turned. -/
theorem stays_cells {β : Type} (B b : Nat) (vs : List Value) (t : TypeId) : StaysC B (fun (_ : β) W => Blk W b vs t) := fun _ _ _ _ h hg hr => h.grown hg (fun e => by
  obtain ⟨_, o, ho, hc⟩ := hr _ e.symm
  rw [show _ = _ from h] at ho
  cases ho
  cases hc)

/-- The iterator g with its captured lb: the elements xs have S; where it is stopped the elements have Sp. -/
def SeqSt {α : Type} (P : Program) (g : Nat) (lb : Array Value) (encs : α → Array Value) (S Sp : List α → Prop) (X : Nat → Prop) (T : TypeId → Bool) (w : World) : Prop :=
  ∀ (l : Nat) (J Jx : List α → World → Prop) (W : World), Below w.heap.size w W → StaysC W.heap.size J → StaysC W.heap.size Jx →
    (∀ pre x W1, J pre W1 → Sp (pre ++ [x]) → YieldAt Fence.wide 0 P l (encs x) W1 fun e W' => KeepsT X W.heap.size T W1 W' ∧
      ((e = .returned (.bool true) ∧ J (pre ++ [x]) W') ∨ (e = .returned (.bool false) ∧ Jx (pre ++ [x]) W'))) →
    J [] W →
    CallsIn Fence.wide 0 P g (#[.func (.yield l) #[] #[]] ++ lb) W fun e W' => (∃ v, e = .returned v) ∧ ((∃ xs, S xs ∧ J xs W') ∨ (∃ xs, Sp xs ∧ Jx xs W'))

theorem SeqSt.low {α : Type} {P : Program} {g : Nat} {lb : Array Value} {encs : α → Array Value} {S Sp : List α → Prop} {X : Nat → Prop} {T : TypeId → Bool} {w w' : World} (h : SeqSt P g lb encs S Sp X T w) (hb : Below w.heap.size w w') : SeqSt P g lb encs S Sp X T w' :=
  fun l J Jx W hW => h l J Jx W (hb.trans (hW.mono hb.size))

/-- How a round may be left. -/
def ownPostT {α : Type} (X : Nat → Prop) (D : Nat) (T : TypeId → Bool) (I : List α → World → Prop) (Ix : Code → List α → World → Prop) (xs : List α) (W : World) : Exit → Act → World → Prop
  | .normal, _, W' => KeepsT X D T W W' ∧ I xs W'
  | .ret, _, W' => KeepsT X D T W W' ∧ Ix .ret xs W'
  | .exit id, _, W' => KeepsT X D T W W' ∧ Ix (.exit id) xs W'
  | .goto t, _, W' => KeepsT X D T W W' ∧ Ix (.goto t) xs W'
  | .panic _, _, _ => False
  | .outgrown, _, _ => False

set_option maxHeartbeats 1000000 in
/-- The law for the caller: I holds between the rounds; a round that stops leaves Ix with its way out; what the assignment leaves: Ax. -/
theorem wpIn_rangeSt {α : Type} {P : Program} {g : Operand} {ps : Array Tmp} {assign body : Code} {Q : Exit → Act → World → Prop} {a : Act} {w : World} {gf : Nat} {lb : Array Value}
    (hg : a.eval g = .func (.func gf) #[] lb) (eg : ∀ args w, (callFunc gf args).run P w = .ok (.enter gf args) w)
    {encs : α → Array Value} {S Sp : List α → Prop} {X : Nat → Prop} {T : TypeId → Bool} (hseq : SeqSt P gf lb encs S Sp X T w) (hps : ∀ x, (encs x).size = ps.size)
    (I : List α → World → Prop) (Ix : Code → List α → World → Prop) (hI : StaysC w.heap.size I) (hIx : ∀ c, StaysC w.heap.size (Ix c)) (h0 : I [] w) (Ax : α → Act → World → Prop) (hAx : ∀ x a', StaysC w.heap.size (fun (_ : Unit) W => Ax x a' W))
    (hassign : ∀ (l : Nat) (pre : List α) (x : α) (W : World) (K : Act → World → Prop), I pre W → Sp (pre ++ [x]) → (∀ a' W', KeepsT X w.heap.size T W W' → I pre W' → Ax x a' W' → K a' W') →
      assign.wpIn (Fence.wide.inRound l) 0 P (Exit.then K (fun _ _ _ => False)) { tmps := (ps.zip (encs x)).foldl (fun t (p, v) => t.setIfInBounds p v) a.tmps, defers := [] } W)
    (hbody : ∀ (l : Nat) (pre : List α) (x : α) (a' : Act) (W : World), I pre W → Ax x a' W → Sp (pre ++ [x]) → body.wpIn (Fence.wide.inRound l) 0 P (ownPostT X w.heap.size T I Ix (pre ++ [x]) W) a' W)
    (hdone : ∀ (D : Nat) (xs : List α) (W : World), w.heap.size ≤ D → S xs → I xs W → W.heap[D]? = some (.deferred (some [])) → Q .normal { a with defers := { target := .collected D, args := #[] } :: a.defers } W)
    (hstop : ∀ (D : Nat) (c : Code) (xs : List α) (W : World), w.heap.size ≤ D → Sp xs → Ix c xs W → W.heap[D]? = some (.deferred (some [])) → c.wpIn Fence.wide 1 P Q { a with defers := { target := .collected D, args := #[] } :: a.defers } W) :
    (Code.rangeFunc g ps assign body).wpIn Fence.wide 1 P Q a w := by
  refine wpIn_rangeFunc fun fn hfn => ?_
  have hex : ∃ R : LoopState → Option Code → Loop, R = fun st pe => { state := st, pending := pe, fn, tmps := a.tmps, params := ps, assign, body, defers := w.heap.size } := ⟨_, rfl⟩
  obtain ⟨R, hR⟩ := hex
  have hw1 : ∃ W1, W1 = (w.alloc (.deferred (some []))).alloc (.loop (R .ready none)) := ⟨_, rfl⟩
  obtain ⟨W1, hW1⟩ := hw1
  have hb1 : Below w.heap.size w W1 := by
    rw [hW1]
    exact (below_new w _).alloc (by simp) _
  have hs1 : W1.heap.size = w.heap.size + 2 := by rw [hW1]; simp
  have hL1 : W1.heap[w.heap.size + 1]? = some (.loop (R .ready none)) := by
    rw [hW1]
    have := World.alloc_heap_new (w.alloc (.deferred (some []))) (.loop (R .ready none))
    rwa [World.size_alloc] at this
  have hK1 : W1.heap[w.heap.size]? = some (.deferred (some [])) := by
    rw [hW1]
    exact (Below.heap_alloc _ _ _ (by simp)).trans (World.alloc_heap_new w _)
  have hI1 : I [] W1 := hI.low h0 hb1
  have hkeep : ∀ {A A' : World} {row : Option Nat} {k : Nat} {o : Obj}, A.grownBy A' row → (∀ r, row = some r → W1.heap.size ≤ r ∧ ∃ o : Obj, A.heap[r]? = some o ∧ o.isCells = false) → k < w.heap.size + 2 → A.heap[k]? = some o → A'.heap[k]? = some o :=
    fun hg' hr hk h => (hg'.block _ (Array.getElem?_eq_some_iff.1 h).1 (fun e => by have := (hr _ e.symm).1; omega)).trans h
  refine ⟨w.heap.size + 1, [{ target := .collected w.heap.size, args := #[] }], W1, { target := .fn (.func gf) lb, args := #[.func (.yield (w.heap.size + 1)) #[] #[]] }, W1, gf,
    #[.func (.yield (w.heap.size + 1)) #[] #[]] ++ lb, W1, ?_, ?_, fun _ _ => trivial, ?_, fun h => absurd h (by simp [Fence.wide]), ?_⟩
  · rw [hW1, hR]
    exact run_enterLoop_outer _ _ _ _ _
  · simp only [resolve, hg]
    simp [go_sem]
  · simp [invoke, go_sem, eg]
  refine (hseq (w.heap.size + 1) (fun pre W => I pre W ∧ W.heap[w.heap.size + 1]? = some (.loop (R .ready none)) ∧ W.heap[w.heap.size]? = some (.deferred (some [])))
    (fun pre W => ∃ c, Ix c pre W ∧ W.heap[w.heap.size + 1]? = some (.loop (R .done (some c))) ∧ W.heap[w.heap.size]? = some (.deferred (some [])))
    W1 hb1
    (fun s A A' row hs hg' hr => ⟨hI s A A' row hs.1 hg' (fun r e => ⟨by have := (hr r e).1; omega, (hr r e).2⟩), hkeep hg' hr (by omega) hs.2.1, hkeep hg' hr (by omega) hs.2.2⟩)
    (fun s A A' row ⟨c, h1, h2, h3⟩ hg' hr => ⟨c, hIx c s A A' row h1 hg' (fun r e => ⟨by have := (hr r e).1; omega, (hr r e).2⟩), hkeep hg' hr (by omega) h2, hkeep hg' hr (by omega) h3⟩)
    ?_ ⟨hI1, hL1, hK1⟩).mono ?_
  · rintro pre x W ⟨hi, hl, hk⟩ hsp
    have hy := run_yield (P := P) (args := encs x) hl (by rw [hR]; exact hps x)
    rw [hR] at hy
    refine ⟨fn, _, assign, body, hy, roundIn_of_wpIn hfn (hassign _ pre x W _ hi hsp (fun aa Wa hka hia hax => ?_))⟩
    have hla := hka.same _ _ hl (.inl ⟨by omega, fun _ _ _ e => by cases e⟩)
    have hkk := hka.same _ _ hk (.inl ⟨Nat.le_refl _, fun _ _ _ e => by cases e⟩)
    have hlt : w.heap.size + 1 < Wa.heap.size := (Array.getElem?_eq_some_iff.1 hla).1
    refine ⟨_, run_beginRound hla (by rw [hR]), ?_⟩
    have hl2 : (Wa.putObj (w.heap.size + 1) (.loop { R .ready none with state := .busy })).heap[w.heap.size + 1]? = some (.loop { R .ready none with state := .busy }) := World.putObj_heap_same hlt
    have hk2 : (Wa.putObj (w.heap.size + 1) (.loop { R .ready none with state := .busy })).heap[w.heap.size]? = some (.deferred (some [])) := (World.putObj_heap_other (by omega)).trans hkk
    refine wpIn_mono (hbody _ pre x _ _ (hI.put _ hia (by omega) hla rfl) ((hAx x aa).put (s := ()) _ hax (by omega) hla rfl) hsp) ?_
    have fin : ∀ (jump : Option Code) (W3 : World), KeepsT X w.heap.size T (Wa.putObj (w.heap.size + 1) (.loop { R .ready none with state := .busy })) W3 →
        (Instr.endRound (w.heap.size + 1) jump).run P W3 = .ok (.bool jump.isNone) (W3.putObj (w.heap.size + 1) (.loop (R (if jump.isNone then .ready else .done) jump))) ∧
        W3.heap[w.heap.size + 1]? = some (.loop { R .ready none with state := .busy }) ∧
        (W3.putObj (w.heap.size + 1) (.loop (R (if jump.isNone then .ready else .done) jump))).heap[w.heap.size + 1]? = some (.loop (R (if jump.isNone then .ready else .done) jump)) ∧
        (W3.putObj (w.heap.size + 1) (.loop (R (if jump.isNone then .ready else .done) jump))).heap[w.heap.size]? = some (.deferred (some [])) ∧
        KeepsT X W1.heap.size T W (W3.putObj (w.heap.size + 1) (.loop (R (if jump.isNone then .ready else .done) jump))) := fun jump W3 hk3 => by
      have hl3 := hk3.same _ _ hl2 (.inl ⟨by omega, fun _ _ _ e => by cases e⟩)
      have := run_endRound (P := P) jump hl3
      rw [hR] at this ⊢
      refine ⟨this, by rw [hR] at hl3; exact hl3, World.putObj_heap_same (Array.getElem?_eq_some_iff.1 hl3).1, (World.putObj_heap_other (by omega)).trans (hk3.same _ _ hk2 (.inl ⟨Nat.le_refl _, fun _ _ _ e => by cases e⟩)), ?_⟩
      refine ⟨by have := hk3.size; have := hka.size; simp at *; omega, fun k o hko hc => ?_⟩
      have hne : k ≠ w.heap.size + 1 := fun e => by
        rcases hc with ⟨h1, _⟩ | ⟨_, h1⟩
        · omega
        · rw [e, hl] at hko
          cases hko
          cases h1
      have hc' : (w.heap.size ≤ k ∧ ∀ cs t z, o = .cells cs t z → T t = false) ∨ (X k ∧ o.isCells = true) := by
        rcases hc with ⟨h1, h2⟩ | h
        · exact .inl ⟨by omega, h2⟩
        · exact .inr h
      rw [World.putObj_heap_other hne]
      rw [hR] at hk3
      exact hk3.same k o ((World.putObj_heap_other hne).trans (hka.same k o hko hc')) hc'
    have stop : ∀ (c : Code) (W3 : World), KeepsT X w.heap.size T (Wa.putObj (w.heap.size + 1) (.loop { R .ready none with state := .busy })) W3 → Ix c (pre ++ [x]) W3 →
        ∃ v w', (Instr.endRound (w.heap.size + 1) (some c)).run P W3 = .ok v w' ∧ KeepsT X W1.heap.size T W w' ∧
          ((Ending.returned v = .returned (.bool true) ∧ (I (pre ++ [x]) w' ∧ w'.heap[w.heap.size + 1]? = some (.loop (R .ready none)) ∧ w'.heap[w.heap.size]? = some (.deferred (some [])))) ∨
           (Ending.returned v = .returned (.bool false) ∧ ∃ c, Ix c (pre ++ [x]) w' ∧ w'.heap[w.heap.size + 1]? = some (.loop (R .done (some c))) ∧ w'.heap[w.heap.size]? = some (.deferred (some [])))) := fun c W3 hk3 hx => by
      obtain ⟨h1, h2, h3, h4, h5⟩ := fin (some c) W3 hk3
      exact ⟨_, _, h1, h5, .inr ⟨rfl, c, (hIx c).put _ hx (by omega) h2 rfl, h3, h4⟩⟩
    intro e a3 W3 hp
    cases e with
    | normal =>
      obtain ⟨hk3, hi3⟩ := hp
      obtain ⟨h1, h2, h3, h4, h5⟩ := fin none W3 hk3
      exact ⟨_, _, h1, h5, .inl ⟨rfl, ⟨hI.put _ hi3 (by omega) h2 rfl, h3, h4⟩⟩⟩
    | ret => exact stop _ W3 hp.1 hp.2
    | exit id => exact stop _ W3 hp.1 hp.2
    | goto t => exact stop _ W3 hp.1 hp.2
    | panic ch => exact hp.elim
    | outgrown => exact hp.elim
  · rintro e W2 ⟨⟨v, rfl⟩, (⟨xs, hS, hi, hl, hk⟩ | ⟨xs, hSp, c, hi, hl, hk⟩)⟩
    · have := run_endLoop (P := P) hl (by rw [hR]; simp)
      rw [hR] at this
      exact ⟨none, _, this, hdone _ xs _ (Nat.le_refl _) hS (hI.put _ hi (by omega) hl rfl) ((World.putObj_heap_other (by omega)).trans hk)⟩
    · have := run_endLoop (P := P) hl (by rw [hR]; simp)
      rw [hR] at this
      exact ⟨some c, _, this, hstop _ c xs _ (Nat.le_refl _) hSp ((hIx c).put _ hi (by omega) hl rfl) ((World.putObj_heap_other (by omega)).trans hk)⟩

/-- A range over a function whose early way out leads where its end leads. -/
theorem wpIn_rangeStOne {α : Type} {P : Program} {g : Operand} {ps : Array Tmp} {assign body : Code} {Q : Exit → Act → World → Prop} {a : Act} {w : World} {gf : Nat} {lb : Array Value}
    (hg : a.eval g = .func (.func gf) #[] lb) (eg : ∀ args w, (callFunc gf args).run P w = .ok (.enter gf args) w)
    {encs : α → Array Value} {S Sp : List α → Prop} {X : Nat → Prop} {T : TypeId → Bool} (hseq : SeqSt P gf lb encs S Sp X T w) (hps : ∀ x, (encs x).size = ps.size)
    (I : List α → World → Prop) (Ix : Code → List α → World → Prop) (hI : StaysC w.heap.size I) (hIx : ∀ c, StaysC w.heap.size (Ix c)) (h0 : I [] w)
    (id : Nat) (Fin : List α → World → Prop) (hfin : ∀ xs W, S xs → I xs W → Fin xs W) (hfix : ∀ c xs W, Sp xs → Ix c xs W → c = .exit id ∧ Fin xs W) (hqe : ∀ a w, Q .normal a w → Q (.exit id) a w)
    (Ax : α → Act → World → Prop) (hAx : ∀ x a', StaysC w.heap.size (fun (_ : Unit) W => Ax x a' W))
    (hassign : ∀ (l : Nat) (pre : List α) (x : α) (W : World) (K : Act → World → Prop), I pre W → Sp (pre ++ [x]) → (∀ a' W', KeepsT X w.heap.size T W W' → I pre W' → Ax x a' W' → K a' W') →
      assign.wpIn (Fence.wide.inRound l) 0 P (Exit.then K (fun _ _ _ => False)) { tmps := (ps.zip (encs x)).foldl (fun t (p, v) => t.setIfInBounds p v) a.tmps, defers := [] } W)
    (hbody : ∀ (l : Nat) (pre : List α) (x : α) (a' : Act) (W : World), I pre W → Ax x a' W → Sp (pre ++ [x]) → body.wpIn (Fence.wide.inRound l) 0 P (ownPostT X w.heap.size T I Ix (pre ++ [x]) W) a' W)
    (hrest : ∀ (D : Nat) (xs : List α) (W : World), w.heap.size ≤ D → Fin xs W → W.heap[D]? = some (.deferred (some [])) → Q .normal { a with defers := { target := .collected D, args := #[] } :: a.defers } W) :
    (Code.rangeFunc g ps assign body).wpIn Fence.wide 1 P Q a w := by
  refine wpIn_rangeSt (S := S) (Sp := Sp) hg eg hseq hps I Ix hI hIx h0 Ax hAx hassign hbody (fun D xs W h1 h2 h3 h4 => hrest D xs W h1 (hfin xs W h2 h3) h4) (fun D c xs W h1 h2 h3 h4 => ?_)
  obtain ⟨rfl, hf⟩ := hfix c xs W h2 h3
  exact wpIn_exit (hqe _ _ (hrest D xs W h1 hf h4))

/-- .. where the assignment touches no memory. -/
theorem wpIn_rangeStA {α : Type} {P : Program} {g : Operand} {ps : Array Tmp} {assign body : Code} {Q : Exit → Act → World → Prop} {a : Act} {w : World} {gf : Nat} {lb : Array Value}
    (hg : a.eval g = .func (.func gf) #[] lb) (eg : ∀ args w, (callFunc gf args).run P w = .ok (.enter gf args) w)
    {encs : α → Array Value} {S Sp : List α → Prop} {X : Nat → Prop} {T : TypeId → Bool} (hseq : SeqSt P gf lb encs S Sp X T w) (hps : ∀ x, (encs x).size = ps.size)
    (I : List α → World → Prop) (Ix : Code → List α → World → Prop) (hI : StaysC w.heap.size I) (hIx : ∀ c, StaysC w.heap.size (Ix c)) (h0 : I [] w)
    (id : Nat) (Fin : List α → World → Prop) (hfin : ∀ xs W, S xs → I xs W → Fin xs W) (hfix : ∀ c xs W, Sp xs → Ix c xs W → c = .exit id ∧ Fin xs W) (hqe : ∀ a w, Q .normal a w → Q (.exit id) a w)
    (a₁ : α → Act)
    (hassign : ∀ (l : Nat) (x : α) (W : World) (K : Act → World → Prop), K (a₁ x) W →
      assign.wpIn (Fence.wide.inRound l) 0 P (Exit.then K (fun _ _ _ => False)) { tmps := (ps.zip (encs x)).foldl (fun t (p, v) => t.setIfInBounds p v) a.tmps, defers := [] } W)
    (hbody : ∀ (l : Nat) (pre : List α) (x : α) (W : World), I pre W → Sp (pre ++ [x]) → body.wpIn (Fence.wide.inRound l) 0 P (ownPostT X w.heap.size T I Ix (pre ++ [x]) W) (a₁ x) W)
    (hrest : ∀ (D : Nat) (xs : List α) (W : World), w.heap.size ≤ D → Fin xs W → W.heap[D]? = some (.deferred (some [])) → Q .normal { a with defers := { target := .collected D, args := #[] } :: a.defers } W) :
    (Code.rangeFunc g ps assign body).wpIn Fence.wide 1 P Q a w :=
  wpIn_rangeStOne hg eg hseq hps I Ix hI hIx h0 id Fin hfin hfix hqe (fun x a' _ => a' = a₁ x) (fun _ _ => StaysC.pure _ _)
    (fun l _ x W K hI _ hK => hassign l x W K (hK _ _ (KeepsT.refl _ _ _ _) hI rfl)) (fun l pre x _ W h1 h2 h3 => by subst h2; exact hbody l pre x W h1 h3) hrest
end Go.Port
