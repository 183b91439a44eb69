/-
  For layer 33: a range over a function whose assignment lays one block, something being said of that block; a row that grows lies apart from a block. Over no program.
  Plain laws of layer 33 (best): the rows of costs and first matches while the table is made; an append in a region of open order; a made row.
-/
import Derived.Test.YtlgablepckmogaaGreatQ09
import Derived.Test.YtlgablepckmogaaGreatQ12
import Derived.Test.YtlgablepckmogaaGreatQ25
import Derived.Laws.CopyRow
import Derived.Laws.MakeOwn
import Derived.Laws.AppendOwnNone
namespace Go.Port
open Go.RowKit
theorem own_apart {w w' : World} {base' n q : Nat} {e : TypeId} {v v' : Value} {xs' vs : List Value} (hne : v.ownBlock ≠ some q) (hq : Blk w q vs e) (hv3 : vs.length = 3) (h' : w'.ownsRow base' e 3 v' (n + 1) xs') (hg : w.grownBy w' v.ownBlock) (h0 : n = 0 → w.heap.size ≤ base') : v'.ownBlock ≠ some q := by
  intro he
  rcases h'.2 with ⟨_, h⟩ | ⟨g, cap, cur, hv, h3, h4, h5, h6, h7, h8⟩
  · omega
  · rw [hv] at he
    cases he
    by_cases hn : n = 0
    · have h8 := h0 hn
      have h9 := hq.lt
      dsimp only at h9
      omega
    · have hqq := hq.grown hg (Ne.symm hne)
      unfold Blk at hqq
      rw [h4] at hqq
      simp only [Option.some.injEq, Obj.cells.injEq] at hqq
      have : cur.size = 3 := by rw [hqq.1, List.size_toArray, hv3]
      omega
theorem own_new {W : World} {base q : Nat} {e : TypeId} {v : Value} {n : Nat} {xs : List Value} (h : W.ownsRow base e 3 v n xs) (hq : W.heap.size ≤ q) : v.ownBlock ≠ some q := fun he => by
  have := (h.lt q he).2
  omega
theorem blk_one {W : World} {b : Nat} {v v' : Value} {t t' : TypeId} (h : Blk W b [v] t) (h' : Blk W b [v'] t') : v = v' := by
  unfold Blk at h h'
  rw [h] at h'
  simp only [Option.some.injEq, Obj.cells.injEq] at h'
  simpa using h'.1
theorem blk_type {W : World} {b : Nat} {vs vs' : List Value} {t t' : TypeId} (h : Blk W b vs t) (h' : Blk W b vs' t') : t = t' := by
  unfold Blk at h h'
  rw [h] at h'
  simp only [Option.some.injEq, Obj.cells.injEq] at h'
  exact h'.2.1
/-- A range over a function where the assignment lays one block of memory, of which Rx holds. -/
theorem wpIn_rangeStBx {α : Type} {P : Program} {g : Operand} {ps : Array Tmp} {assign body : Code} {Q : Exit → Act → World → Prop} {a : Act} {w : World} {gf : Nat} {lb : Array Value}
    (hg : a.eval g = .func (.func gf) #[] lb) (eg : ∀ args w, (callFunc gf args).run P w = .ok (.enter gf args) w)
    {encs : α → Array Value} {S Sp : List α → Prop} {X : Nat → Prop} {T : TypeId → Bool} (hseq : SeqSt P gf lb encs S Sp X T w) (hps : ∀ x, (encs x).size = ps.size)
    (I : List α → World → Prop) (Ix : Code → List α → World → Prop) (hI : StaysC w.heap.size I) (hIx : ∀ c, StaysC w.heap.size (Ix c)) (h0 : I [] w)
    (id : Nat) (Fin : List α → World → Prop) (hfin : ∀ xs W, S xs → I xs W → Fin xs W) (hfix : ∀ c xs W, Sp xs → Ix c xs W → c = .exit id ∧ Fin xs W) (hqe : ∀ a w, Q .normal a w → Q (.exit id) a w)
    (Bx : α → List Value) (tb : TypeId) (act : α → Nat → Act) (Rx : Nat → World → Prop) (hRs : ∀ q, StaysC w.heap.size (fun (_ : Unit) W => Rx q W)) (hR : ∀ pre x W, I pre W → Rx W.heap.size (W.alloc (.cells (Bx x).toArray tb)))
    (hassign : ∀ (l : Nat) (pre : List α) (x : α) (W : World) (K : Act → World → Prop), I pre W → Sp (pre ++ [x]) → (∀ q, q = W.heap.size → K (act x q) (W.alloc (.cells (Bx x).toArray tb))) →
      assign.wpIn (Fence.wide.inRound l) 0 P (Exit.then K (fun _ _ _ => False)) { tmps := (ps.zip (encs x)).foldl (fun t (p, v) => t.setIfInBounds p v) a.tmps, defers := [] } W)
    (hbody : ∀ (l : Nat) (pre : List α) (x : α) (q : Nat) (W : World), I pre W → Blk W q (Bx x) tb → Rx q W → Sp (pre ++ [x]) → body.wpIn (Fence.wide.inRound l) 0 P (ownPostT X w.heap.size T I Ix (pre ++ [x]) W) (act x q) W)
    (hrest : ∀ (D : Nat) (xs : List α) (W : World), w.heap.size ≤ D → Fin xs W → W.heap[D]? = some (.deferred (some [])) → Q .normal { a with defers := { target := .collected D, args := #[] } :: a.defers } W) :
    (Code.rangeFunc g ps assign body).wpIn Fence.wide 1 P Q a w :=
  wpIn_rangeStOne hg eg hseq hps I Ix hI hIx h0 id Fin hfin hfix hqe (fun x a' W => ∃ q, a' = act x q ∧ Blk W q (Bx x) tb ∧ Rx q W)
    (fun x a' => fun s W1 W2 row h hg hr => by
      obtain ⟨q, e, hb, hr2⟩ := h
      exact ⟨q, e, stays_cells (β := Unit) _ _ _ _ () W1 W2 row hb hg hr, hRs q () W1 W2 row hr2 hg hr⟩)
    (fun l pre x W K hi hsp hK => hassign l pre x W K hi hsp (fun q hq => hK _ _ (KeepsT.low (below_new W _)) (hI.low hi (below_new W _)) ⟨q, rfl, by subst hq; exact Blk.new W _ _, by subst hq; exact hR pre x W hi⟩))
    (fun l pre x a' W h1 h2 h3 => by obtain ⟨q, rfl, hb, hr⟩ := h2; exact hbody l pre x q W h1 hb hr h3) hrest
/-- While the candidates are gathered: the matches of l have been seen. -/
structure StB (w : World) (B : Nat) (tS tI tL : TypeId) (l : List Sq) (W : World) : Prop where
  o : ∃ v, Blk W w.heap.size [v] tL ∧ W.ownsRow B tS 3 v (bGo 3 l).length ((bGo 3 l).flatMap sqc) ∧ ((bGo 3 l).length = 0 → v = .slice none 0 0)
  n : Blk W (w.heap.size + 1) [.int .i64 (bN 3 l)] tI
  z : Blk W (w.heap.size + 2) (sqc (bLast l)) tS
  low : Below w.heap.size w W
  sz : B ≤ W.heap.size
theorem StB.stays (w : World) (B : Nat) (tS tI tL : TypeId) {D : Nat} (hD : B ≤ D) (hB : w.heap.size + 3 ≤ B) : StaysC D (fun (xs : List (Int × Sq)) W => StB w B tS tI tL (xs.map (·.2)) W) := fun xs W W' row h hg hr => by
  obtain ⟨v, h1, h2, h3⟩ := h.o
  exact ⟨⟨v, stays_cells (β := Unit) D _ _ _ () W W' row h1 hg hr, stays_own (β := Unit) D _ _ _ _ _ _ () W W' row h2 hg hr, h3⟩, stays_cells (β := Unit) D _ _ _ () W W' row h.n hg hr, stays_cells (β := Unit) D _ _ _ () W W' row h.z hg hr, h.low.grown hg h.low.size (fun k hk => by have := (hr _ hk).1; omega), Nat.le_trans h.sz hg.size⟩
/-- A slice cut back to its length. -/
theorem bounds_clip {P : Program} (n c : Nat) (h : n ≤ c) (W : World) : (Instr.sliceBounds true n c none (some (.int .i64 (n : Int))) (some (.int .i64 (n : Int)))).run P W = .ok (0, n, n) W := by
  simp [Instr.sliceBounds, Instr.sliceBound, asIntOf]
  try omega
theorem run_clip {P : Program} {t e : TypeId} {i : TypeInfo} (ht : P.underlying t = some (.slice e)) (hi : P.info? e = some i) {ad : Option Addr} {n c : Nat} (h : (ad = none ∧ n = 0 ∧ c = 0) ∨ ∃ g, ad = some ⟨g, 0, none⟩ ∧ n ≤ c) (W : World) :
    (Instr.slice t (.slice ad n c) none (some (.int .i64 (n : Int))) (some (.int .i64 (n : Int)))).run P W = .ok (.slice ad n n) W := by
  have hb := bounds_clip (P := P) n c (by rcases h with ⟨_, h1, h2⟩ | ⟨g, _, h2⟩ <;> omega)
  have h9 : (Instr.slice t (.slice ad n c) none (some (.int .i64 (n : Int))) (some (.int .i64 (n : Int)))).run P W = .ok (.slice (if n = 0 then ad else ad.map (·.add (0 * i.size))) (n - 0) (n - 0)) W := by
    simp [Instr.slice, run_underlying ht, hb, sizeOf, typeInfo, hi]
  rw [h9]
  rcases h with ⟨rfl, h1, h2⟩ | ⟨g, rfl, h2⟩
  · simp
  · simp only [Option.map_some, Go.WideShapes.add_plain, Nat.zero_mul, Nat.add_zero, ite_self, Nat.sub_zero]
theorem run_clipAt {P : Program} {t e : TypeId} {i : TypeInfo} (ht : P.underlying t = some (.slice e)) (hi : P.info? e = some i) {ad : Option Addr} {n c : Nat} (h : (ad = none ∧ n = 0 ∧ c = 0) ∨ ∃ g, ad = some ⟨g, 0, none⟩ ∧ n ≤ c) (W : World) :
    (Instr.sliceAt t (.slice ad n c) none (some (.int .i64 (n : Int))) (some (.int .i64 (n : Int)))).run P W = .ok (.slice ad n n) W := by
  rw [← run_clip ht hi h W]
  simp [Instr.sliceAt, run_underlying ht]
theorem own_clip {w : World} {base n : Nat} {e : TypeId} {ad : Option Addr} {m c : Nat} {xs : List Value} (h : w.ownsRow base e 3 (.slice ad m c) n xs) : m = n ∧ ((ad = none ∧ n = 0 ∧ c = 0) ∨ ∃ g, ad = some ⟨g, 0, none⟩ ∧ n ≤ c) := by
  rcases h.2 with ⟨h1, h2⟩ | ⟨g, cap, cur, h1, _, _, h4, _⟩
  · cases h1
    exact ⟨h2.symm, .inl ⟨rfl, h2, rfl⟩⟩
  · cases h1
    exact ⟨rfl, .inr ⟨g, rfl, h4⟩⟩
theorem own_rows {w : World} {base n : Nat} {e : TypeId} {ad : Option Addr} {m c : Nat} {xs : List Value} (h : w.ownsRow base e 3 (.slice ad m c) n xs) : CellsAt w ad xs ∧ ∀ x, ad = some x → base ≤ x.block := by
  rcases h with ⟨hl, ⟨h1, h2⟩ | ⟨g, cap, cur, h1, h2, h3, _, _, _, h7⟩⟩
  · cases h1
    refine ⟨fun j u hu => ?_, fun x hx => by cases hx⟩
    have := (List.getElem?_eq_some_iff.1 hu).1
    omega
  · cases h1
    refine ⟨fun j u hu => ?_, fun x hx => by cases hx; exact h2⟩
    have hB : Blk w g cur.toList e := by unfold Blk; simpa using h3
    have hc : cur.toList[j]? = some u := by
      rw [← h7, List.getElem?_take] at hu
      split at hu
      · exact hu
      · cases hu
    exact ⟨g, 0, rfl, hB.lt, by rw [Nat.zero_add]; exact hB.cell hc⟩
theorem own_neD {w : World} {base n D : Nat} {e : TypeId} {v : Value} {xs : List Value} {d} (h : w.ownsRow base e 3 v n xs) (hd : w.heap[D]? = some (.deferred d)) : some D ≠ v.ownBlock := fun e' => by
  rcases h.2 with ⟨rfl, _⟩ | ⟨g, cap, cur, rfl, _, h3, _⟩
  · cases e'
  · cases e'
    rw [hd] at h3
    cases h3
/-- A slice without its first. -/
theorem bounds_tail {P : Program} (n c l : Nat) (hl : l ≤ n) (W : World) : (Instr.sliceBounds true n c (some (.int .i64 (l : Int))) none none).run P W = .ok (l, n, c) W := by
  simp [Instr.sliceBounds, Instr.sliceBound, asIntOf]
  intro h2
  omega
theorem run_tail {P : Program} {t e : TypeId} {i : TypeInfo} (ht : P.underlying t = some (.slice e)) (hi : P.info? e = some i) (hs : i.size = 3) (b o n c : Nat) (W : World) :
    (Instr.slice t (.slice (some ⟨b, o, none⟩) (n + 1) c) (some (.int .i64 1)) none none).run P W = .ok (.slice (if c = 1 then some ⟨b, o, none⟩ else some ⟨b, o + 3, none⟩) n (c - 1)) W := by
  have hb := bounds_tail (P := P) (n + 1) c 1 (by omega)
  have e1 : ((1 : Nat) : Int) = 1 := rfl
  rw [e1] at hb
  have h9 : (Instr.slice t (.slice (some ⟨b, o, none⟩) (n + 1) c) (some (.int .i64 1)) none none).run P W = .ok (.slice (if c = 1 then some ⟨b, o, none⟩ else Option.map (fun x : Addr => x.add (1 * i.size)) (some ⟨b, o, none⟩)) (n + 1 - 1) (c - 1)) W := by
    simp [Instr.slice, run_underlying ht, hb, sizeOf, typeInfo, hi]
  rw [h9, hs, Option.map_some, Go.WideShapes.add_plain]
  rfl
theorem run_tailAt {P : Program} {t e : TypeId} {i : TypeInfo} (ht : P.underlying t = some (.slice e)) (hi : P.info? e = some i) (hs : i.size = 3) (b o n c : Nat) (W : World) :
    (Instr.sliceAt t (.slice (some ⟨b, o, none⟩) (n + 1) c) (some (.int .i64 1)) none none).run P W = .ok (.slice (if c = 1 then some ⟨b, o, none⟩ else some ⟨b, o + 3, none⟩) n (c - 1)) W := by
  rw [← run_tail ht hi hs b o n c W]
  simp [Instr.sliceAt, run_underlying ht]
end Go.Port
namespace Go.Port
open Go.RowKit
def costsN (n : Nat) (t : List (Sq × Int)) : List Int := List.replicate (n - t.length) 0 ++ costsL t
def firstsN (n : Nat) (t : List (Sq × Int)) : List Sq := List.replicate (n - t.length) ⟨0, 0, 0⟩ ++ t.map (·.1)
theorem costsN_length {n : Nat} {t : List (Sq × Int)} (h : t.length ≤ n) : (costsN n t).length = n + 1 := by
  unfold costsN
  rw [List.length_append, List.length_replicate, costsL_length]
  omega
theorem firstsN_length {n : Nat} {t : List (Sq × Int)} (h : t.length ≤ n) : (firstsN n t).length = n := by
  unfold firstsN
  rw [List.length_append, List.length_replicate, List.length_map]
  omega
theorem costsN_all {n : Nat} {t : List (Sq × Int)} (h : t.length = n) : costsN n t = costsL t := by
  unfold costsN
  rw [h, Nat.sub_self]
  rfl
theorem firstsN_all {n : Nat} {t : List (Sq × Int)} (h : t.length = n) : firstsN n t = t.map (·.1) := by
  unfold firstsN
  rw [h, Nat.sub_self]
  rfl
theorem replicate_set {α : Type} (x y : α) : ∀ (i : Nat) (l : List α), (List.replicate (i + 1) x ++ l).set i y = List.replicate i x ++ y :: l := by
  intro i
  induction i with
  | zero => intro l; rfl
  | succ i ih => intro l; rw [List.replicate_succ, List.cons_append, List.set_cons_succ, ih, List.replicate_succ, List.cons_append]
theorem costsN_set {n : Nat} {t : List (Sq × Int)} {s : Sq} {v : Int} (h : t.length + 1 ≤ n) : (costsN n t).set (n - (t.length + 1)) v = costsN n ((s, v) :: t) := by
  unfold costsN
  rw [show n - t.length = (n - (t.length + 1)) + 1 from by omega, replicate_set]
  rfl
theorem firstsN_set {n : Nat} {t : List (Sq × Int)} {s : Sq} {v : Int} (h : t.length + 1 ≤ n) : (firstsN n t).set (n - (t.length + 1)) s = firstsN n ((s, v) :: t) := by
  unfold firstsN
  rw [show n - t.length = (n - (t.length + 1)) + 1 from by omega, replicate_set]
  rfl
theorem sqc_set (s : Sq) : ∀ (l : List Sq) (i : Nat), i < l.length → (((l.flatMap sqc).set (i * 3) (.int .i64 s.lit)).set (i * 3 + 1) (.int .i64 s.len)).set (i * 3 + 2) (.int .i64 s.off) = (l.set i s).flatMap sqc := by
  intro l
  induction l with
  | nil => intro i h; exact absurd h (Nat.not_lt_zero _)
  | cons x r ih =>
    intro i h
    cases i with
    | zero => rfl
    | succ i =>
      have h2 := ih i (by simpa using h)
      rw [List.set_cons_succ, List.flatMap_cons, List.flatMap_cons, ← h2, show (i + 1) * 3 = i * 3 + 1 + 1 + 1 from by omega]
      rfl
theorem costsN_get {n : Nat} {t : List (Sq × Int)} (k : Nat) : (costsN n t).getD (n - t.length + k) 0 = costAt t k := by
  unfold costsN costAt
  rw [List.getD_eq_getElem?_getD, List.getElem?_append_right (by rw [List.length_replicate]; omega), List.length_replicate, Nat.add_sub_cancel_left, List.getD_eq_getElem?_getD]
theorem costsN_mem {n : Nat} {t : List (Sq × Int)} {B : Int} (hB : 0 ≤ B) (h : ∀ j, 0 ≤ costAt t j ∧ costAt t j ≤ B) : ∀ x ∈ costsN n t, 0 ≤ x ∧ x ≤ B := by
  intro x hx
  unfold costsN at hx
  rcases List.mem_append.1 hx with hx | hx
  · rw [(List.mem_replicate.1 hx).2]
    exact ⟨Int.le_refl _, hB⟩
  · obtain ⟨j, hj, rfl⟩ := List.getElem_of_mem hx
    have := h j
    unfold costAt at this
    rwa [List.getD_eq_getElem?_getD, List.getElem?_eq_getElem hj] at this
theorem zeros_sqc (n : Nat) : (List.replicate n (⟨0, 0, 0⟩ : Sq)).flatMap sqc = List.replicate (n * 3) (.int .i64 0) := by
  induction n with
  | zero => rfl
  | succ n ih => rw [List.replicate_succ, List.flatMap_cons, ih, show (n + 1) * 3 = n * 3 + 1 + 1 + 1 from by omega]; rfl
theorem made_all {z : Array Value} {u : Value} (h : ∀ j, j < z.size → z[j]! = u) (hz : 0 < z.size) (n : Nat) : madeCells z n = (List.replicate n u).toArray := by
  apply Array.ext
  · simp [size_madeCells]
  · intro i h1 h2
    simp only [madeCells, Array.getElem_map, Array.getElem_range, List.getElem_toArray, List.getElem_replicate]
    exact h _ (Nat.mod_lt _ hz)
/-- An append of a row that may be nil, in a region of open order. -/
theorem step_appendsK {P : Program} {ops : Array Oper} {o : Oper} {a : Act} {W : World} {K : Act → World → Prop} {Q : Exit → Act → World → Prop} {E : Prop}
    (hg : o.guard = none) (s x : Operand) (t : TypeId) (ho : o.op = .call { callee := .builtin .append, args := #[s, x], argTypes := #[t, t] }) (e : TypeId) (z : Value) (sz bytes : Nat) (ht : P.underlying t = some (.slice e))
    (hi : (P.info? e).map (fun i => (i.zero, i.size, i.bytes)) = some (some z, sz, bytes)) (hz : z.cells.size = sz) (hsz : 0 < sz) (base : Nat) (v : Value) (n m c : Nat) (ad : Option Addr) (xs us : List Value)
    (hus : us.length = m * sz) (hu : ∀ u ∈ us, u.oneCell' = true) (hs : a.eval s = v) (hx : a.eval x = .slice ad m c) (had : ad = none → c = 0) (hmc : m ≤ c) (hc : CellsAt W ad us)
    (hown : W.ownsRow base e sz v n xs) (h63 : n + m ≤ maxLen) (hn : (n + m) * bytes ≤ 140737488355328) (hbase : base ≤ W.heap.size)
    (h : ∀ v' w', w'.ownsRow base e sz v' (n + m) (xs ++ us) → W.grownBy w' v.ownBlock → K (a.put o.dst v') w') :
    if Region.wanted o (yielded ops a.tmps) = true then Oper.wp P o a W K Q else E := by
  have hw : Region.wanted o (yielded ops a.tmps) = true := by simp [Region.wanted, hg]
  rw [if_pos hw]
  obtain ⟨i0, hi0, hz0, hz1, hz2⟩ := info_parts hi
  cases ad with
  | none =>
    have hc0 : c = 0 := had rfl
    subst hc0
    obtain rfl : m = 0 := by omega
    have : us = [] := List.eq_nil_of_length_eq_zero (by omega)
    subst this
    have hrun := run_append_owned_none (P := P) (w := W) base t o.type e i0 sz ht hi0 v n xs hown
    unfold Oper.wp
    simp [execOp, ho, resolve, invoke, builtin, hs, hx, hrun, Result.andThen]
    exact h v W (by simpa using hown) (World.grownBy.refl W _)
  | some ad =>
    refine wp_append_own W s x t ho base e i0 z sz bytes ht hi0 hz0 hz1 hz2 hz hsz v n xs hs hown ad m c us hx hus (fun j u hj => ?_) hu h63 hn hbase (fun v' w' h1 h2 _ => h v' w' h1 h2)
    obtain ⟨b, off, e1, _, e2⟩ := hc j u hj
    simp only [Option.some.injEq] at e1
    subst e1
    rw [Go.WideShapes.add_plain]
    exact e2
theorem own_lit {W : World} {g base : Nat} {e : TypeId} {x y z : Value} (h : Blk W g [x, y, z] e) (hb : base ≤ g) : W.ownsRow base e 3 (.slice (some ⟨g, 0, none⟩) 1 1) 1 [x, y, z] :=
  ⟨rfl, .inr ⟨g, 1, #[x, y, z], rfl, hb, h, Nat.le_refl _, by decide, rfl, rfl⟩⟩
end Go.Port
