/-
  A law of our own for a range over a function whose iterator promises something (Ad) of each element at the moment when it yields it: a slice in fresh memory, which no law of the library lets it say. Over no program.
-/
import Derived.Test.YtngphgdoolcpcaaBase
import Derived.RangeFuncFrom
import Derived.RangeFuncLeaves
namespace Go.Port
open Go.RowKit

/-- Stays when memory grows, and when a block from B on that holds no cells is turned. -/
def Stays {β : Type} (B : Nat) (I : β → World → Prop) : Prop :=
  ∀ s W W' row, I s W → W.grownBy W' row → (∀ r, row = some r → B ≤ r ∧ ∃ o : Obj, W.heap[r]? = some o ∧ o.isCells = false) → I s W'
theorem Stays.put {β : Type} {B : Nat} {I : β → World → Prop} (h : Stays B I) {s : β} {W : World} {l : Nat} {o : Obj} (o' : Obj) (hs : I s W) (hB : B ≤ l) (hl : W.heap[l]? = some o) (ho : o.isCells = false) : I s (W.putObj l o') :=
  h s W _ (some l) hs (grownBy_putObj' W l o') (fun r e => by cases e; exact ⟨hB, o, hl, ho⟩)
theorem Stays.new {β : Type} {B : Nat} {I : β → World → Prop} (h : Stays B I) {s : β} {W : World} (o : Obj) (hs : I s W) : I s (W.alloc o) :=
  h s W _ none hs (World.grownBy_alloc W o none) (fun r e => by cases e)

/-- The iterator g: it yields elements that are Ad at that moment; where each round goes on it returns when elements with S have come; what a round keeps: Kp. A round may stop it: then the elements that have come have Sp. -/
def SeqAd {α : Type} (P : Program) (g : Nat) (lb : Array Value) (encs : α → Array Value) (Ad : α → World → Prop) (S Sp : List α → Prop) (Kp : World → World → Prop) (w : World) : Prop :=
  ∀ (l : Nat) (J Jx : List α → World → Prop) (W : World), Below w.heap.size w W →
    (∀ s A B, J s A → Below A.heap.size A B → J s B) → (∀ s A B, Jx s A → Below A.heap.size A B → Jx s B) →
    (∀ pre x W1, J pre W1 → Ad x W1 → Sp (pre ++ [x]) → YieldAt Fence.wide 0 P l (encs x) W1 fun e W' =>
      (e = .returned (.bool true) ∧ J (pre ++ [x]) W' ∧ Kp W1 W') ∨ (e = .returned (.bool false) ∧ Jx (pre ++ [x]) W')) →
    J [] W →
    CallsIn Fence.wide 0 P g (#[.func (.yield l) #[] #[]] ++ lb) W fun e W' => (∃ v, e = .returned v) ∧ ((∃ xs, S xs ∧ J xs W') ∨ (∃ xs, Sp xs ∧ Jx xs W'))

theorem grown_of_below {A B : World} (h : Below A.heap.size A B) : A.grownBy B none := ⟨h.os, h.tape, h.output, h.size, fun k hk _ => h.block k hk⟩
theorem Stays.low {β : Type} {B : Nat} {I : β → World → Prop} (h : Stays B I) {s : β} {W W' : World} (hs : I s W) (hb : Below W.heap.size W W') : I s W' := h s W W' none hs (grown_of_below hb) (fun r e => by cases e)
theorem at_low {W W' : World} (hb : Below W.heap.size W W') {k : Nat} {o : Obj} (h : W.heap[k]? = some o) : W'.heap[k]? = some o := (hb.block k (Array.getElem?_eq_some_iff.1 h).1).trans h

set_option maxHeartbeats 1000000 in
/-- The law for the caller: I holds between the rounds; a round that stops leaves Ix with its way out. -/
theorem wpIn_rangeAd {α : Type} {P : Program} {g : Operand} {ps : Array Tmp} {assign body : Code} {Q : Exit → Act → World → Prop} {a : Act} {w : World} {gf : Nat} {lb : Array Value}
    (hg : a.eval g = .func (.func gf) #[] lb) (eg : ∀ args w, (callFunc gf args).run P w = .ok (.enter gf args) w)
    {encs : α → Array Value} {Ad : α → World → Prop} {S Sp : List α → Prop} {Kp : World → World → Prop} (hKt : ∀ {A B C : World}, Kp A B → Kp B C → Kp A C)
    (hKb : ∀ (A : World) (o o' : Obj), A.heap[w.heap.size + 1]? = some o → o.isCells = false → Kp A (A.putObj (w.heap.size + 1) o')) (hseq : SeqAd P gf lb encs Ad S Sp Kp w) (hps : ∀ x, (encs x).size = ps.size)
    (I : List α → World → Prop) (Ix : Code → List α → World → Prop) (hI : Stays w.heap.size I) (hIx : ∀ c, Stays w.heap.size (Ix c)) (hAd : Stays w.heap.size Ad) (h0 : I [] w) (a₁ : α → Act)
    (hassign : ∀ (l : Nat) (x : α) (W : World) (K : Act → World → Prop), K (a₁ x) W →
      assign.wpIn (Fence.wide.inRound l) 0 P (Exit.then K (fun _ _ _ => False)) { tmps := (ps.zip (encs x)).foldl (fun t (p, v) => t.setIfInBounds p v) a.tmps, defers := [] } W)
    (hbody : ∀ (l : Nat) (pre : List α) (x : α) (W : World), I pre W → Ad x W → Sp (pre ++ [x]) → body.wpIn (Fence.wide.inRound l) 0 P (ownPostK Kp I Ix (pre ++ [x]) W) (a₁ x) W)
    (hdone : ∀ (D : Nat) (xs : List α) (W : World), w.heap.size ≤ D → S xs → I xs W → W.heap[D]? = some (.deferred (some [])) → Q .normal { a with defers := { target := .collected D, args := #[] } :: a.defers } W)
    (hstop : ∀ (D : Nat) (c : Code) (xs : List α) (W : World), w.heap.size ≤ D → Sp xs → Ix c xs W → W.heap[D]? = some (.deferred (some [])) → c.wpIn Fence.wide 1 P Q { a with defers := { target := .collected D, args := #[] } :: a.defers } W) :
    (Code.rangeFunc g ps assign body).wpIn Fence.wide 1 P Q a w := by
  refine wpIn_rangeFunc fun fn hfn => ?_
  have hex : ∃ R : LoopState → Option Code → Loop, R = fun st pe => { state := st, pending := pe, fn, tmps := a.tmps, params := ps, assign, body, defers := w.heap.size } := ⟨_, rfl⟩
  obtain ⟨R, hR⟩ := hex
  have hw1 : ∃ W1, W1 = (w.alloc (.deferred (some []))).alloc (.loop (R .ready none)) := ⟨_, rfl⟩
  obtain ⟨W1, hW1⟩ := hw1
  have hb1 : Below w.heap.size w W1 := by
    rw [hW1]
    exact (below_new w _).alloc (by simp) _
  have hL1 : W1.heap[w.heap.size + 1]? = some (.loop (R .ready none)) := by
    rw [hW1]
    have := World.alloc_heap_new (w.alloc (.deferred (some []))) (.loop (R .ready none))
    rwa [World.size_alloc] at this
  have hK1 : W1.heap[w.heap.size]? = some (.deferred (some [])) := by
    rw [hW1]
    exact (Below.heap_alloc _ _ _ (by simp)).trans (World.alloc_heap_new w _)
  have hI1 : I [] W1 := hI.low h0 hb1
  refine ⟨w.heap.size + 1, [{ target := .collected w.heap.size, args := #[] }], W1, { target := .fn (.func gf) lb, args := #[.func (.yield (w.heap.size + 1)) #[] #[]] }, W1, gf,
    #[.func (.yield (w.heap.size + 1)) #[] #[]] ++ lb, W1, ?_, ?_, fun _ _ => trivial, ?_, fun h => absurd h (by simp [Fence.wide]), ?_⟩
  · rw [hW1, hR]
    exact run_enterLoop_outer _ _ _ _ _
  · simp only [resolve, hg]
    simp [go_sem]
  · simp [invoke, go_sem, eg]
  refine (hseq (w.heap.size + 1) (fun pre W => I pre W ∧ W.heap[w.heap.size + 1]? = some (.loop (R .ready none)) ∧ W.heap[w.heap.size]? = some (.deferred (some [])))
    (fun pre W => ∃ c, Ix c pre W ∧ W.heap[w.heap.size + 1]? = some (.loop (R .done (some c))) ∧ W.heap[w.heap.size]? = some (.deferred (some [])))
    W1 hb1 (fun s A B hs hb => ⟨hI.low hs.1 hb, at_low hb hs.2.1, at_low hb hs.2.2⟩)
    (fun s A B ⟨c, h1, h2, h3⟩ hb => ⟨c, (hIx c).low h1 hb, at_low hb h2, at_low hb h3⟩) ?_ ⟨hI1, hL1, hK1⟩).mono ?_
  · rintro pre x W ⟨hi, hl, hk⟩ had hsp
    have hlt : w.heap.size + 1 < W.heap.size := (Array.getElem?_eq_some_iff.1 hl).1
    have hy := run_yield (P := P) (args := encs x) hl (by rw [hR]; exact hps x)
    rw [hR] at hy
    refine ⟨fn, _, assign, body, hy, roundIn_of_wpIn hfn (hassign _ x W _ ⟨_, run_beginRound hl (by rw [hR]), ?_⟩)⟩
    have hl2 : (W.putObj (w.heap.size + 1) (.loop { R .ready none with state := .busy })).heap[w.heap.size + 1]? = some (.loop { R .ready none with state := .busy }) := World.putObj_heap_same hlt
    have hk2 : (W.putObj (w.heap.size + 1) (.loop { R .ready none with state := .busy })).heap[w.heap.size]? = some (.deferred (some [])) := (World.putObj_heap_other (by omega)).trans hk
    refine wpIn_mono (hbody _ pre x _ (hI.put _ hi (by omega) hl rfl) (hAd.put _ had (by omega) hl rfl) hsp) ?_
    have fin : ∀ (jump : Option Code) (W3 : World), KeepsOthers (W.putObj (w.heap.size + 1) (.loop { R .ready none with state := .busy })) W3 →
        (Instr.endRound (w.heap.size + 1) jump).run P W3 = .ok (.bool jump.isNone) (W3.putObj (w.heap.size + 1) (.loop (R (if jump.isNone then .ready else .done) jump))) ∧
        W3.heap[w.heap.size + 1]? = some (.loop { R .ready none with state := .busy }) ∧
        (W3.putObj (w.heap.size + 1) (.loop (R (if jump.isNone then .ready else .done) jump))).heap[w.heap.size + 1]? = some (.loop (R (if jump.isNone then .ready else .done) jump)) ∧
        (W3.putObj (w.heap.size + 1) (.loop (R (if jump.isNone then .ready else .done) jump))).heap[w.heap.size]? = some (.deferred (some [])) := fun jump W3 hk3 => by
      have hl3 := hk3.same _ _ hl2 rfl
      have := run_endRound (P := P) jump hl3
      rw [hR] at this ⊢
      exact ⟨this, by rw [hR] at hl3; exact hl3, World.putObj_heap_same (Array.getElem?_eq_some_iff.1 hl3).1, (World.putObj_heap_other (by omega)).trans (hk3.same _ _ hk2 rfl)⟩
    have stop : ∀ (c : Code) (W3 : World), KeepsOthers (W.putObj (w.heap.size + 1) (.loop { R .ready none with state := .busy })) W3 → Ix c (pre ++ [x]) W3 →
        ∃ v w', (Instr.endRound (w.heap.size + 1) (some c)).run P W3 = .ok v w' ∧
          ((Ending.returned v = .returned (.bool true) ∧ (I (pre ++ [x]) w' ∧ w'.heap[w.heap.size + 1]? = some (.loop (R .ready none)) ∧ w'.heap[w.heap.size]? = some (.deferred (some []))) ∧ Kp W w') ∨
           (Ending.returned v = .returned (.bool false) ∧ ∃ c, Ix c (pre ++ [x]) w' ∧ w'.heap[w.heap.size + 1]? = some (.loop (R .done (some c))) ∧ w'.heap[w.heap.size]? = some (.deferred (some [])))) := fun c W3 hk3 hx => by
      obtain ⟨h1, h2, h3, h4⟩ := fin (some c) W3 hk3
      exact ⟨_, _, h1, .inr ⟨rfl, c, (hIx c).put _ hx (by omega) h2 rfl, h3, h4⟩⟩
    intro e a3 W3 hp
    cases e with
    | normal =>
      obtain ⟨hk3, hb3, hi3⟩ := hp
      obtain ⟨h1, h2, h3, h4⟩ := fin none W3 hk3
      exact ⟨_, _, h1, .inl ⟨rfl, ⟨hI.put _ hi3 (by omega) h2 rfl, h3, h4⟩, hKt (hKt (hKb W _ _ hl rfl) hb3) (hKb W3 _ _ h2 rfl)⟩⟩
    | ret => exact stop _ W3 hp.1 hp.2
    | exit id => exact stop _ W3 hp.1 hp.2
    | goto t => exact stop _ W3 hp.1 hp.2
    | panic ch => exact hp.elim
    | outgrown => exact hp.elim
  · rintro e W2 ⟨⟨v, rfl⟩, (⟨xs, hS, hi, hl, hk⟩ | ⟨xs, hSp, c, hi, hl, hk⟩)⟩
    · have := run_endLoop (P := P) hl (by rw [hR]; simp)
      rw [hR] at this
      exact ⟨none, _, this, hdone _ xs _ (Nat.le_refl _) hS (hI.put _ hi (by omega) hl rfl) ((World.putObj_heap_other (by omega)).trans hk)⟩
    · have := run_endLoop (P := P) hl (by rw [hR]; simp)
      rw [hR] at this
      exact ⟨some c, _, this, hstop _ c xs _ (Nat.le_refl _) hSp ((hIx c).put _ hi (by omega) hl rfl) ((World.putObj_heap_other (by omega)).trans hk)⟩

/-- The cells of every block but bn lie as they lay. -/
def KeepsBut (X : Nat → Prop) (W W' : World) : Prop := ∀ (k : Nat) (o : Obj), W.heap[k]? = some o → o.isCells = true → ¬ X k → W'.heap[k]? = some o
theorem KeepsBut.refl (X : Nat → Prop) (A : World) : KeepsBut X A A := fun _ _ h _ _ => h
theorem KeepsBut.trans {X : Nat → Prop} {A B C : World} (h : KeepsBut X A B) (h' : KeepsBut X B C) : KeepsBut X A C := fun k o hk ho hne => h' k o (h k o hk ho hne) ho hne
theorem KeepsBut.put {X : Nat → Prop} (A : World) (l : Nat) (o o' : Obj) (h : A.heap[l]? = some o) (ho : o.isCells = false) : KeepsBut X A (A.putObj l o') := fun k p hk hp _ => by
  refine (World.putObj_heap_other (fun e => ?_)).trans hk
  subst e
  rw [h] at hk
  cases hk
  rw [ho] at hp
  cases hp
theorem KeepsBut.blk {X : Nat → Prop} {b : Nat} {W W' : World} {vs : List Value} {t : TypeId} (h : KeepsBut X W W') (hb : Blk W b vs t) (hne : ¬ X b) : Blk W' b vs t := h b _ hb rfl hne
theorem KeepsBut.below {X : Nat → Prop} {A B : World} (h : Below A.heap.size A B) : KeepsBut X A B := fun k _ hk _ _ => (h.block k (Array.getElem?_eq_some_iff.1 hk).1).trans hk
theorem KeepsBut.grown {X : Nat → Prop} {A B : World} {row : Option Nat} (h : A.grownBy B row) (hx : ∀ r, row = some r → X r) : KeepsBut X A B := fun k _ hk _ hn =>
  (h.block k (Array.getElem?_eq_some_iff.1 hk).1 (fun e => hn (hx k e.symm))).trans hk
theorem KeepsBut.set {X : Nat → Prop} (A : World) (a : Addr) (u : Value) (hx : X a.block) : KeepsBut X A (A.setCell a u) := fun k _ hk _ hn =>
  (Below.heap_setCell A a u k (fun e => hn (by rw [e]; exact hx))).trans hk
end Go.Port
