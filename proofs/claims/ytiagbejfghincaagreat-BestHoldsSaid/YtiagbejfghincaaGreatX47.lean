/-
  Chapter 33's stage theorem: the plan of a path is one of the data; marks of ranges over functions in a loop.
-/
import Derived.Test.YtiagbejfghincaaGreatX46
import Derived.Test.YtiagbejfghincaaGreatX42
namespace Go.Port
open Go.RowKit Go.Proofs.YtiagbejfghincaaGreat
theorem path_ver {bs : List UInt8} {A : Nat} {Wd D : Int} (_ : A ≤ bs.length) : ∀ (l : List Sq) (p : Int), 0 ≤ p → isPath (chF bs A Wd D) ((bs.drop A).length : Nat) p l = true → VerOk bs A Wd p l := by
  intro l
  induction l with
  | nil => intro p _ _; exact trivial
  | cons s r ih =>
    intro p h0 h
    unfold isPath at h
    split at h
    · cases h
    · rename_i hb
      split at h
      · rename_i ha
        obtain ⟨y, hy, hyy⟩ := List.any_eq_true.1 ha
        simp only [Bool.and_eq_true, beq_iff_eq] at hyy
        obtain ⟨P, n, d, hP, hye, h1, h2, h4, h5, h6, h7⟩ := (steps_is hy).ex
        subst hye
        dsimp only at hyy
        have hl : (bs.drop A).length = bs.length - A := List.length_drop
        refine ⟨⟨h0, by omega, by omega, by omega, by omega, by omega, by omega, fun k hk => ?_⟩, ih _ (by omega) h⟩
        have h8 := h7 k (by omega)
        rw [show ((A : Int) + (p + s.lit)).toNat + k = A + P + k from by omega, show ((A : Int) + (p + s.lit) - s.off).toNat + k = A + P + k - d from by omega]
        exact h8
      · cases h
theorem isPath_end {ch : Int → List Sq} {n : Nat} (hch : Choices n ch) : ∀ (l : List Sq) (p : Int), isPath ch n p l = true → p ≤ lend p l := by
  intro l
  induction l with
  | nil => intro p _; exact Int.le_refl _
  | cons s r ih =>
    intro p h
    unfold isPath at h
    split at h
    · cases h
    · rename_i hb
      split at h
      · rename_i ha
        obtain ⟨y, hy, hyy⟩ := List.any_eq_true.1 ha
        simp only [Bool.and_eq_true, beq_iff_eq] at hyy
        obtain ⟨c0, c1, c2, c3, c4, c5⟩ := hch.inn _ y hy
        have := ih _ h
        simp only [lend]
        omega
      · cases h
theorem costF_least (C : Nat → List Int) (bs : List UInt8) (A : Nat) (Wd D : Int) (p : Nat) : costF C bs A Wd D p = least C (bs.drop A) (chF bs A Wd D) p := rfl
theorem frame_ex {A : Array Value} {d ds : List Deferred} {f : (Nat → Value) → Array Value} (h : A = f (fun i => (A.toList[i]?).getD undef)) (hd : d = ds) : ∃ z, ({ tmps := A, defers := d } : Act) = { tmps := f z, defers := ds } := ⟨_, by rw [← h, hd]⟩
/-- The last of the costs that came. -/
def lastV (cs : List Int) : Nat → Int
  | 0 => -1
  | k + 1 => cs.getD k 0
structure LastI (wq : World) (t3 : TypeId) (LA : Nat) (cs : List Int) (k : Nat) (W : World) : Prop where
  l : Blk W LA [.int .i64 (lastV cs k)] t3
  low : Below wq.heap.size wq W
theorem LastI.stays (wq : World) (t3 : TypeId) (LA : Nat) (cs : List Int) {D : Nat} (_ : LA < D) (_ : wq.heap.size ≤ D) : StaysC D (fun (xs : List (Int × Int)) W => LastI wq t3 LA cs xs.length W) := fun xs W W' row h hg hr =>
  ⟨stays_cells (β := Unit) D _ _ _ () W W' row h.l hg hr, h.low.grown hg h.low.size (fun k hk => by have := (hr _ hk).1; omega)⟩
theorem LastI.step {wq W W1 : World} {t3 : TypeId} {LA : Nat} {cs : List Int} {k : Nat} (h : LastI wq t3 LA cs k W) (hb : Below W.heap.size W W1) (hLA : wq.heap.size ≤ LA) {x : Int} (hx : cs[k]? = some x) : LastI wq t3 LA cs (k + 1) (W1.setCell ⟨LA, 0, none⟩ (.int .i64 x)) := by
  refine ⟨?_, (h.low.trans (hb.mono h.low.size)).setCell (p := ⟨LA, 0, none⟩) hLA _⟩
  have e : lastV cs (k + 1) = x := by
    show cs.getD k 0 = x
    rw [List.getD_eq_getElem?_getD, hx]
    rfl
  rw [e]
  exact (h.l.below hb h.l.lt).set 0 _
/-- What is picked of the candidates. -/
structure PickI (wr : World) (tS tB : TypeId) (l : List Sq) (W : World) : Prop where
  ex : ∃ o : Option Sq, (∀ s, o = some s → s ∈ l) ∧ Blk W wr.heap.size (sqc (o.getD ⟨0, 0, 0⟩)) tS ∧ Blk W (wr.heap.size + 1) [.bool o.isSome] tB ∧ Below wr.heap.size wr W
theorem PickI.stays (wr : World) (tS tB : TypeId) {D : Nat} (hD : wr.heap.size + 2 ≤ D) : StaysC D (fun (xs : List (Int × Sq)) W => PickI wr tS tB (xs.map (·.2)) W) := fun xs W W' row h hg hr => by
  obtain ⟨o, h1, h2, h3, h4⟩ := h.ex
  exact ⟨o, h1, stays_cells (β := Unit) D _ _ _ () W W' row h2 hg hr, stays_cells (β := Unit) D _ _ _ () W W' row h3 hg hr, h4.grown hg h4.size (fun k hk => by have := (hr _ hk).1; omega)⟩
/-- The marks of ranges over functions, the last ahead. -/
def dfs (ds : List Nat) : List Deferred := ds.map fun D => { target := .collected D, args := #[] }
def DfOk (lo : Nat) (ds : List Nat) (W : World) : Prop := ds.Pairwise (fun a b => b < a) ∧ ∀ D ∈ ds, lo ≤ D ∧ W.heap[D]? = some (.deferred (some []))
theorem DfOk.low {lo : Nat} {ds : List Nat} {W W' : World} (h : DfOk lo ds W) (hb : Below W.heap.size W W') : DfOk lo ds W' := ⟨h.1, fun D hD => ⟨(h.2 D hD).1, at_low' hb (h.2 D hD).2⟩⟩
theorem DfOk.cons {lo D : Nat} {ds : List Nat} {W W' : World} (h : DfOk lo ds W) (hb : Below W.heap.size W W') (hD : W.heap.size ≤ D) (hlo : lo ≤ W.heap.size) (hd : W'.heap[D]? = some (.deferred (some []))) : DfOk lo (D :: ds) W' := by
  refine ⟨List.pairwise_cons.2 ⟨fun D' h' => ?_, h.1⟩, fun D' h' => ?_⟩
  · have := (Array.getElem?_eq_some_iff.1 (h.2 D' h').2).1
    omega
  · rcases List.mem_cons.1 h' with rfl | h'
    · exact ⟨by omega, hd⟩
    · exact (h.low hb).2 D' h'
theorem leaves_dfs {F : Fence} {n : Nat} {P : Program} {fn : Func} {tmps : Array Value} {R : Ending → World → Prop} (lo : Nat) : ∀ (ds : List Nat) (w : World), DfOk lo ds w →
    (∀ w', (∀ k, k < lo → w'.heap[k]? = w.heap[k]?) → (∀ v0 : World, v0.heap.size ≤ lo → Below v0.heap.size v0 w → Below v0.heap.size v0 w') → LeavesInM F n P fn tmps R [] .returning w') → LeavesInM F n P fn tmps R (dfs ds) .returning w := by
  intro ds
  induction ds with
  | nil => intro w _ h; exact h w (fun _ _ => rfl) (fun _ _ hb => hb)
  | cons D r ih =>
    intro w hd h
    obtain ⟨hp, hd⟩ := hd
    have hD := hd D List.mem_cons_self
    have hp2 := List.pairwise_cons.1 hp
    refine ⟨by simp, .inl ⟨D, w.putObj D (.deferred none), rfl, run_takeDeferred hD.2, ?_⟩⟩
    refine ih _ ⟨hp2.2, fun D' h' => ⟨(hd D' (List.mem_cons_of_mem _ h')).1, (World.putObj_heap_other (by have := hp2.1 D' h'; omega)).trans (hd D' (List.mem_cons_of_mem _ h')).2⟩⟩ (fun w' h1 h2 => h w' (fun k hk => (h1 k hk).trans (World.putObj_heap_other (by omega))) (fun v0 hv hb => h2 v0 hv (hb.grown (grownBy_putObj' w D _) hb.size (fun k hk => by cases hk; omega))))
end Go.Port
