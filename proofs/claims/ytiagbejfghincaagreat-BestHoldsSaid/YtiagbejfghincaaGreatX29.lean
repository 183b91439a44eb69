/-
  For layer 33: a range over a function whose assignment lays one block, something being said of that block; a row that grows lies apart from a block. Over no program.
-/
import Derived.Test.YtiagbejfghincaaGreatX28
import Derived.Test.YtiagbejfghincaaGreatX02
import Derived.Laws.CopyRow
namespace Go.Port
open Go.RowKit
theorem own_apart {w w' : World} {base' n q : Nat} {e : TypeId} {v v' : Value} {xs' vs : List Value} (hne : v.ownBlock ≠ some q) (hq : Blk w q vs e) (hv3 : vs.length = 3) (h' : w'.ownsRow base' e 3 v' (n + 1) xs') (hg : w.grownBy w' v.ownBlock) (h0 : n = 0 → w.heap.size ≤ base') : v'.ownBlock ≠ some q := by
  intro he
  rcases h'.2 with ⟨_, h⟩ | ⟨g, cap, cur, hv, h3, h4, h5, h6, h7, h8⟩
  · omega
  · rw [hv] at he
    cases he
    by_cases hn : n = 0
    · have h8 := h0 hn
      have h9 := hq.lt
      dsimp only at h9
      omega
    · have hqq := hq.grown hg (Ne.symm hne)
      unfold Blk at hqq
      rw [h4] at hqq
      simp only [Option.some.injEq, Obj.cells.injEq] at hqq
      have : cur.size = 3 := by rw [hqq.1, List.size_toArray, hv3]
      omega
theorem own_new {W : World} {base q : Nat} {e : TypeId} {v : Value} {n : Nat} {xs : List Value} (h : W.ownsRow base e 3 v n xs) (hq : W.heap.size ≤ q) : v.ownBlock ≠ some q := fun he => by
  have := (h.lt q he).2
  omega
theorem blk_one {W : World} {b : Nat} {v v' : Value} {t t' : TypeId} (h : Blk W b [v] t) (h' : Blk W b [v'] t') : v = v' := by
  unfold Blk at h h'
  rw [h] at h'
  simp only [Option.some.injEq, Obj.cells.injEq] at h'
  simpa using h'.1
theorem blk_type {W : World} {b : Nat} {vs vs' : List Value} {t t' : TypeId} (h : Blk W b vs t) (h' : Blk W b vs' t') : t = t' := by
  unfold Blk at h h'
  rw [h] at h'
  simp only [Option.some.injEq, Obj.cells.injEq] at h'
  exact h'.2.1
/-- A range over a function where the assignment lays one block of memory, of which Rx holds. -/
theorem wpIn_rangeStBx {α : Type} {P : Program} {g : Operand} {ps : Array Tmp} {assign body : Code} {Q : Exit → Act → World → Prop} {a : Act} {w : World} {gf : Nat} {lb : Array Value}
    (hg : a.eval g = .func (.func gf) #[] lb) (eg : ∀ args w, (callFunc gf args).run P w = .ok (.enter gf args) w)
    {encs : α → Array Value} {S Sp : List α → Prop} {X : Nat → Prop} {T : TypeId → Bool} (hseq : SeqSt P gf lb encs S Sp X T w) (hps : ∀ x, (encs x).size = ps.size)
    (I : List α → World → Prop) (Ix : Code → List α → World → Prop) (hI : StaysC w.heap.size I) (hIx : ∀ c, StaysC w.heap.size (Ix c)) (h0 : I [] w)
    (id : Nat) (Fin : List α → World → Prop) (hfin : ∀ xs W, S xs → I xs W → Fin xs W) (hfix : ∀ c xs W, Sp xs → Ix c xs W → c = .exit id ∧ Fin xs W) (hqe : ∀ a w, Q .normal a w → Q (.exit id) a w)
    (Bx : α → List Value) (tb : TypeId) (act : α → Nat → Act) (Rx : Nat → World → Prop) (hRs : ∀ q, StaysC w.heap.size (fun (_ : Unit) W => Rx q W)) (hR : ∀ pre x W, I pre W → Rx W.heap.size (W.alloc (.cells (Bx x).toArray tb)))
    (hassign : ∀ (l : Nat) (pre : List α) (x : α) (W : World) (K : Act → World → Prop), I pre W → Sp (pre ++ [x]) → (∀ q, q = W.heap.size → K (act x q) (W.alloc (.cells (Bx x).toArray tb))) →
      assign.wpIn (Fence.wide.inRound l) 0 P (Exit.then K (fun _ _ _ => False)) { tmps := (ps.zip (encs x)).foldl (fun t (p, v) => t.setIfInBounds p v) a.tmps, defers := [] } W)
    (hbody : ∀ (l : Nat) (pre : List α) (x : α) (q : Nat) (W : World), I pre W → Blk W q (Bx x) tb → Rx q W → Sp (pre ++ [x]) → body.wpIn (Fence.wide.inRound l) 0 P (ownPostT X w.heap.size T I Ix (pre ++ [x]) W) (act x q) W)
    (hrest : ∀ (D : Nat) (xs : List α) (W : World), w.heap.size ≤ D → Fin xs W → W.heap[D]? = some (.deferred (some [])) → Q .normal { a with defers := { target := .collected D, args := #[] } :: a.defers } W) :
    (Code.rangeFunc g ps assign body).wpIn Fence.wide 1 P Q a w :=
  wpIn_rangeStOne hg eg hseq hps I Ix hI hIx h0 id Fin hfin hfix hqe (fun x a' W => ∃ q, a' = act x q ∧ Blk W q (Bx x) tb ∧ Rx q W)
    (fun x a' => fun s W1 W2 row h hg hr => by
      obtain ⟨q, e, hb, hr2⟩ := h
      exact ⟨q, e, stays_cells (β := Unit) _ _ _ _ () W1 W2 row hb hg hr, hRs q () W1 W2 row hr2 hg hr⟩)
    (fun l pre x W K hi hsp hK => hassign l pre x W K hi hsp (fun q hq => hK _ _ (KeepsT.low (below_new W _)) (hI.low hi (below_new W _)) ⟨q, rfl, by subst hq; exact Blk.new W _ _, by subst hq; exact hR pre x W hi⟩))
    (fun l pre x a' W h1 h2 h3 => by obtain ⟨q, rfl, hb, hr⟩ := h2; exact hbody l pre x q W h1 hb hr h3) hrest
/-- While the candidates are gathered: the matches of l have been seen. -/
structure StB (w : World) (B : Nat) (tS tI tL : TypeId) (l : List Sq) (W : World) : Prop where
  o : ∃ v, Blk W w.heap.size [v] tL ∧ W.ownsRow B tS 3 v (bGo 3 l).length ((bGo 3 l).flatMap sqc) ∧ ((bGo 3 l).length = 0 → v = .slice none 0 0)
  n : Blk W (w.heap.size + 1) [.int .i64 (bN 3 l)] tI
  z : Blk W (w.heap.size + 2) (sqc (bLast l)) tS
  low : Below w.heap.size w W
  sz : B ≤ W.heap.size
theorem StB.stays (w : World) (B : Nat) (tS tI tL : TypeId) {D : Nat} (hD : B ≤ D) (hB : w.heap.size + 3 ≤ B) : StaysC D (fun (xs : List (Int × Sq)) W => StB w B tS tI tL (xs.map (·.2)) W) := fun xs W W' row h hg hr => by
  obtain ⟨v, h1, h2, h3⟩ := h.o
  exact ⟨⟨v, stays_cells (β := Unit) D _ _ _ () W W' row h1 hg hr, stays_own (β := Unit) D _ _ _ _ _ _ () W W' row h2 hg hr, h3⟩, stays_cells (β := Unit) D _ _ _ () W W' row h.n hg hr, stays_cells (β := Unit) D _ _ _ () W W' row h.z hg hr, h.low.grown hg h.low.size (fun k hk => by have := (hr _ hk).1; omega), Nat.le_trans h.sz hg.size⟩
/-- A slice cut back to its length. -/
theorem bounds_clip {P : Program} (n c : Nat) (h : n ≤ c) (W : World) : (Instr.sliceBounds true n c none (some (.int .i64 (n : Int))) (some (.int .i64 (n : Int)))).run P W = .ok (0, n, n) W := by
  simp [Instr.sliceBounds, Instr.sliceBound, asIntOf]
  try omega
theorem run_clip {P : Program} {t e : TypeId} {i : TypeInfo} (ht : P.underlying t = some (.slice e)) (hi : P.info? e = some i) {ad : Option Addr} {n c : Nat} (h : (ad = none ∧ n = 0 ∧ c = 0) ∨ ∃ g, ad = some ⟨g, 0, none⟩ ∧ n ≤ c) (W : World) :
    (Instr.slice t (.slice ad n c) none (some (.int .i64 (n : Int))) (some (.int .i64 (n : Int)))).run P W = .ok (.slice ad n n) W := by
  have hb := bounds_clip (P := P) n c (by rcases h with ⟨_, h1, h2⟩ | ⟨g, _, h2⟩ <;> omega)
  have h9 : (Instr.slice t (.slice ad n c) none (some (.int .i64 (n : Int))) (some (.int .i64 (n : Int)))).run P W = .ok (.slice (if n = 0 then ad else ad.map (·.add (0 * i.size))) (n - 0) (n - 0)) W := by
    simp [Instr.slice, run_underlying ht, hb, sizeOf, typeInfo, hi]
  rw [h9]
  rcases h with ⟨rfl, h1, h2⟩ | ⟨g, rfl, h2⟩
  · simp
  · simp only [Option.map_some, Go.WideShapes.add_plain, Nat.zero_mul, Nat.add_zero, ite_self, Nat.sub_zero]
theorem run_clipAt {P : Program} {t e : TypeId} {i : TypeInfo} (ht : P.underlying t = some (.slice e)) (hi : P.info? e = some i) {ad : Option Addr} {n c : Nat} (h : (ad = none ∧ n = 0 ∧ c = 0) ∨ ∃ g, ad = some ⟨g, 0, none⟩ ∧ n ≤ c) (W : World) :
    (Instr.sliceAt t (.slice ad n c) none (some (.int .i64 (n : Int))) (some (.int .i64 (n : Int)))).run P W = .ok (.slice ad n n) W := by
  rw [← run_clip ht hi h W]
  simp [Instr.sliceAt, run_underlying ht]
theorem own_clip {w : World} {base n : Nat} {e : TypeId} {ad : Option Addr} {m c : Nat} {xs : List Value} (h : w.ownsRow base e 3 (.slice ad m c) n xs) : m = n ∧ ((ad = none ∧ n = 0 ∧ c = 0) ∨ ∃ g, ad = some ⟨g, 0, none⟩ ∧ n ≤ c) := by
  rcases h.2 with ⟨h1, h2⟩ | ⟨g, cap, cur, h1, _, _, h4, _⟩
  · cases h1
    exact ⟨h2.symm, .inl ⟨rfl, h2, rfl⟩⟩
  · cases h1
    exact ⟨rfl, .inr ⟨g, rfl, h4⟩⟩
theorem own_rows {w : World} {base n : Nat} {e : TypeId} {ad : Option Addr} {m c : Nat} {xs : List Value} (h : w.ownsRow base e 3 (.slice ad m c) n xs) : CellsAt w ad xs ∧ ∀ x, ad = some x → base ≤ x.block := by
  rcases h with ⟨hl, ⟨h1, h2⟩ | ⟨g, cap, cur, h1, h2, h3, _, _, _, h7⟩⟩
  · cases h1
    refine ⟨fun j u hu => ?_, fun x hx => by cases hx⟩
    have := (List.getElem?_eq_some_iff.1 hu).1
    omega
  · cases h1
    refine ⟨fun j u hu => ?_, fun x hx => by cases hx; exact h2⟩
    have hB : Blk w g cur.toList e := by unfold Blk; simpa using h3
    have hc : cur.toList[j]? = some u := by
      rw [← h7, List.getElem?_take] at hu
      split at hu
      · exact hu
      · cases hu
    exact ⟨g, 0, rfl, hB.lt, by rw [Nat.zero_add]; exact hB.cell hc⟩
theorem own_neD {w : World} {base n D : Nat} {e : TypeId} {v : Value} {xs : List Value} {d} (h : w.ownsRow base e 3 v n xs) (hd : w.heap[D]? = some (.deferred d)) : some D ≠ v.ownBlock := fun e' => by
  rcases h.2 with ⟨rfl, _⟩ | ⟨g, cap, cur, rfl, _, h3, _⟩
  · cases e'
  · cases e'
    rw [hd] at h3
    cases h3
/-- A slice without its first. -/
theorem bounds_tail {P : Program} (n c l : Nat) (hl : l ≤ n) (W : World) : (Instr.sliceBounds true n c (some (.int .i64 (l : Int))) none none).run P W = .ok (l, n, c) W := by
  simp [Instr.sliceBounds, Instr.sliceBound, asIntOf]
  intro h2
  omega
theorem run_tail {P : Program} {t e : TypeId} {i : TypeInfo} (ht : P.underlying t = some (.slice e)) (hi : P.info? e = some i) (hs : i.size = 3) (b o n c : Nat) (W : World) :
    (Instr.slice t (.slice (some ⟨b, o, none⟩) (n + 1) c) (some (.int .i64 1)) none none).run P W = .ok (.slice (if c = 1 then some ⟨b, o, none⟩ else some ⟨b, o + 3, none⟩) n (c - 1)) W := by
  have hb := bounds_tail (P := P) (n + 1) c 1 (by omega)
  have e1 : ((1 : Nat) : Int) = 1 := rfl
  rw [e1] at hb
  have h9 : (Instr.slice t (.slice (some ⟨b, o, none⟩) (n + 1) c) (some (.int .i64 1)) none none).run P W = .ok (.slice (if c = 1 then some ⟨b, o, none⟩ else Option.map (fun x : Addr => x.add (1 * i.size)) (some ⟨b, o, none⟩)) (n + 1 - 1) (c - 1)) W := by
    simp [Instr.slice, run_underlying ht, hb, sizeOf, typeInfo, hi]
  rw [h9, hs, Option.map_some, Go.WideShapes.add_plain]
  rfl
theorem run_tailAt {P : Program} {t e : TypeId} {i : TypeInfo} (ht : P.underlying t = some (.slice e)) (hi : P.info? e = some i) (hs : i.size = 3) (b o n c : Nat) (W : World) :
    (Instr.sliceAt t (.slice (some ⟨b, o, none⟩) (n + 1) c) (some (.int .i64 1)) none none).run P W = .ok (.slice (if c = 1 then some ⟨b, o, none⟩ else some ⟨b, o + 3, none⟩) n (c - 1)) W := by
  rw [← run_tail ht hi hs b o n c W]
  simp [Instr.sliceAt, run_underlying ht]
end Go.Port
