/-
  Plain laws of layer 33 (best): the candidates are matches of the data, within the window.
  Plain laws for the laws on iterators over sequences with positions: what lies while the turns are run; a range over a function whose assignment lays one block.
  From a law's walk to its statement: what the arguments are in memory, and that they read behind the call as before.
-/
import Derived.Test.YtiagbejfghincaaGreatX24
import Derived.Test.YtiagbejfghincaaGreatX29
import Derived.Test.YtiagbejfghincaaGreatX36
import Derived.Test.YtiagbejfghincaaGreatX30
import Derived.Test.YtiagbejfghincaaGreatX33
import Derived.Test.YtiagbejfghincaaGreatX32
import Derived.Test.YtiagbejfghincaaGreatX08
import Derived.Test.YtiagbejfghincaaGreatRows
import Derived.Test.YtiagbejfghincaaGreatX02
import Derived.LoopIn
import Derived.Deep.LoopGhost
import Derived.WalkMore
import Derived.ProofKit
import Derived.OpenShut
import Derived.ReadAgain
import Derived.ChangeOld
namespace Go.Port
open Go.RowKit
theorem rise_mem (l : List Sq) : ∀ (f : Nat) (last longest : Int) (x : Sq), x ∈ riseGo f l last longest → longest < x.len ∧ ∃ y ∈ l, x = ⟨0, y.len, y.off⟩ := by
  intro f
  induction f with
  | zero => intro last longest x h; simp [riseGo] at h
  | succ f ih =>
    intro last longest x h
    have hn := nextGo_spec l last l none (fun y hy => by cases hy)
    unfold riseGo at h
    cases he : nextGo l last none l with
    | none => rw [he] at h; simp at h
    | some y =>
      obtain ⟨h1, _⟩ := hn.2 y he
      have hy : y ∈ l := by simpa using h1
      rw [he] at h
      dsimp only at h
      split at h
      · rename_i hlt
        rcases List.mem_cons.1 h with rfl | h
        · exact ⟨hlt, y, hy, rfl⟩
        · have := ih _ _ x h
          exact ⟨by omega, this.2⟩
      · exact ih _ _ x h
/-- A match at a position of the data: where it lies, and that its bytes are those at its offset. -/
structure MatchAt (B : List UInt8) (A : Nat) (W : Int) (p : Int) (s : Sq) : Prop where
  ex : ∃ P n d : Nat, p = (P : Int) ∧ s = ⟨0, n, d⟩ ∧ 3 ≤ n ∧ 1 ≤ d ∧ d ≤ A + P ∧ (d : Int) ≤ W ∧ A + P + n ≤ B.length ∧ (∀ k, k < n → B[A + P + k]? = B[A + P + k - d]?)
theorem MatchAt.short {B : List UInt8} {A : Nat} {W p : Int} {s : Sq} (h : MatchAt B A W p s) {k : Int} (h3 : 3 ≤ k) (hk : k ≤ s.len) : MatchAt B A W p ⟨0, k, s.off⟩ := by
  obtain ⟨P, n, d, rfl, rfl, h1, h2, h4, h5, h6, h7⟩ := h.ex
  dsimp only at hk
  exact ⟨P, k.toNat, d, rfl, by rw [show (k.toNat : Int) = k from by omega], by omega, h2, h4, h5, by omega, fun j hj => h7 j (by omega)⟩
theorem allS_is {B : List UInt8} {A : Nat} {W D p : Int} {s : Sq} (h : s ∈ allS B A W D p) : MatchAt B A W p s := by
  unfold allS at h
  split at h
  · rename_i hp
    obtain ⟨P, rfl⟩ : ∃ P : Nat, p = (P : Int) := ⟨p.toNat, by omega⟩
    unfold incS at h
    obtain ⟨h3, y, hm, rfl⟩ := rise_mem _ _ _ _ _ h
    obtain ⟨x, hx, he, rfl⟩ := matchesS_mem hm
    obtain ⟨q, hq, rfl⟩ := List.mem_map.1 hx
    have hq : q ∈ candS B (A + P) W D := by
      unfold candL at hq
      rw [if_pos hp, Int.toNat_natCast] at hq
      exact hq
    obtain ⟨c1, c2, c3, c4⟩ := candS_mem hq
    have hl : lenS B ((A : Int) + (P : Int)) (q : Int) (B.length : Int) = cpl (B.length : Int).toNat (B.drop ((A : Int) + (P : Int)).toNat) (B.drop (q : Int).toNat) := by unfold lenS; rw [he]; rfl
    dsimp only at h3 ⊢
    rw [hl] at h3 ⊢
    rw [show ((A : Int) + (P : Int)).toNat = A + P from by omega] at h3 ⊢
    simp only [Int.toNat_natCast] at h3 ⊢
    have h1 := cpl_le B.length (B.drop (A + P)) (B.drop q)
    have h2 := cpl_eq B.length (B.drop (A + P)) (B.drop q)
    generalize cpl B.length (B.drop (A + P)) (B.drop q) = N at *
    rw [List.length_drop, List.length_drop] at h1
    refine ⟨P, N, A + P - q, rfl, ?_, by omega, by omega, by omega, by omega, by omega, fun k hk => ?_⟩
    · congr 1
      omega
    · have := h2 k hk
      rw [List.getElem?_drop, List.getElem?_drop] at this
      rw [this]
      congr 1
      omega
  · cases h
theorem bGo_mem : ∀ (l : List Sq) (n : Int) (s : Sq), s ∈ bGo n l → ∃ x ∈ l, ∃ k, n ≤ k ∧ k ≤ x.len ∧ s = ⟨0, k, x.off⟩ := by
  intro l
  induction l with
  | nil => intro n s h; cases h
  | cons y r ih =>
    intro n s h
    rcases List.mem_append.1 (show s ∈ (span n (min 64 y.len)).map (fun k => (⟨0, k, y.off⟩ : Sq)) ++ bGo (max n (min 64 y.len + 1)) r from h) with h | h
    · obtain ⟨k, hk, rfl⟩ := List.mem_map.1 h
      have := span_mem hk
      exact ⟨y, List.mem_cons_self, k, by omega, by omega, rfl⟩
    · obtain ⟨x, hx, k, h1, h2, h3⟩ := ih _ _ h
      exact ⟨x, List.mem_cons_of_mem _ hx, k, by omega, h2, h3⟩
theorem bLast_mem : ∀ (l : List Sq), l ≠ [] → bLast l ∈ l := by
  intro l
  induction l with
  | nil => intro h; exact absurd rfl h
  | cons s r ih =>
    intro _
    cases r with
    | nil => exact List.mem_cons_self
    | cons t r => rw [bLast_cons2]; exact List.mem_cons_of_mem _ (ih (by simp))
theorem steps_is {B : List UInt8} {A : Nat} {W D p : Int} {s : Sq} (h : s ∈ bSteps (allS B A W D p)) : MatchAt B A W p s := by
  unfold bSteps at h
  rcases List.mem_append.1 h with h | h
  · obtain ⟨x, hx, k, h1, h2, rfl⟩ := bGo_mem _ _ _ h
    exact (allS_is hx).short h1 h2
  · split at h
    · rename_i hl
      rcases List.mem_singleton.1 h with rfl
      refine allS_is (bLast_mem _ (fun h0 => ?_))
      rw [h0] at hl
      exact absurd hl (by decide)
    · cases h
theorem choices_ok {B : List UInt8} {A : Nat} {W D : Int} (hA : A ≤ B.length) (hW : W ≤ 134217728) : Choices (B.drop A).length (fun i => bSteps (allS B A W D i)) := by
  refine ⟨fun i s hs => ?_⟩
  obtain ⟨P, n, d, rfl, rfl, h1, h2, h4, h5, h6, h7⟩ := (steps_is hs).ex
  rw [List.length_drop]
  dsimp only
  omega
end Go.Port
namespace Go.Port
open Go.RowKit
/-- The law's cells: the number of rounds, its result. -/
structure StM (w W : World) (many : Int) (t3 t4 : TypeId) : Prop where
  b0 : Blk W w.heap.size [.int .i64 many] t3
  b1 : Blk W (w.heap.size + 1) [.bool false] t4
  below : Below w.heap.size w W
theorem StM.low {w W W' : World} {many : Int} {t3 t4 : TypeId} (h : StM w W many t3 t4) (hb : Below W.heap.size W W') : StM w W' many t3 t4 :=
  ⟨h.b0.below hb h.b0.lt, h.b1.below hb h.b1.lt, h.below.trans (hb.mono h.below.size)⟩
/-- What lies while the turns are run: the law's cells, the plan and the positions wanted, the iterator's box. -/
structure GoS (w W : World) (many : Int) (l : List (Int × Sq)) (lb : Nat) (al : Option Addr) (cl pb : Nat) (ap : Option Addr) (cp g : Nat) (a5 : Option Addr) (c5 : Nat) (t3 t4 tl tp tg : TypeId) : Prop where
  st : StM w W many t3 t4
  want : Blk W lb [.slice al l.length cl] tl
  wrow : CellsAt W al ((l.map fun x => x.2).flatMap sqc)
  plc : Blk W pb [.slice ap l.length cp] tp
  prow : CellsAt W ap ((l.map fun x => x.1).map iv)
  box : Blk W g [.slice a5 l.length c5] tg
  row : CellsAt W a5 (l.flatMap stc)
theorem GoS.low {w W W' : World} {many : Int} {l : List (Int × Sq)} {lb : Nat} {al : Option Addr} {cl pb : Nat} {ap : Option Addr} {cp g : Nat} {a5 : Option Addr} {c5 : Nat} {t3 t4 tl tp tg : TypeId} (h : GoS w W many l lb al cl pb ap cp g a5 c5 t3 t4 tl tp tg) (hb : Below W.heap.size W W') : GoS w W' many l lb al cl pb ap cp g a5 c5 t3 t4 tl tp tg :=
  ⟨h.st.low hb, h.want.below hb h.want.lt, h.wrow.low hb, h.plc.below hb h.plc.lt, h.prow.low hb, h.box.below hb h.box.lt, h.row.low hb⟩
/-- A range over a function where the assignment lays one block of memory. -/
theorem wpIn_rangeStB {α : Type} {P : Program} {g : Operand} {ps : Array Tmp} {assign body : Code} {Q : Exit → Act → World → Prop} {a : Act} {w : World} {gf : Nat} {lb : Array Value}
    (hg : a.eval g = .func (.func gf) #[] lb) (eg : ∀ args w, (callFunc gf args).run P w = .ok (.enter gf args) w)
    {encs : α → Array Value} {S Sp : List α → Prop} {X : Nat → Prop} {T : TypeId → Bool} (hseq : SeqSt P gf lb encs S Sp X T w) (hps : ∀ x, (encs x).size = ps.size)
    (I : List α → World → Prop) (Ix : Code → List α → World → Prop) (hI : StaysC w.heap.size I) (hIx : ∀ c, StaysC w.heap.size (Ix c)) (h0 : I [] w)
    (id : Nat) (Fin : List α → World → Prop) (hfin : ∀ xs W, S xs → I xs W → Fin xs W) (hfix : ∀ c xs W, Sp xs → Ix c xs W → c = .exit id ∧ Fin xs W) (hqe : ∀ a w, Q .normal a w → Q (.exit id) a w)
    (Bx : α → List Value) (tb : TypeId) (act : α → Nat → Act)
    (hassign : ∀ (l : Nat) (pre : List α) (x : α) (W : World) (K : Act → World → Prop), I pre W → Sp (pre ++ [x]) → (∀ q, q = W.heap.size → K (act x q) (W.alloc (.cells (Bx x).toArray tb))) →
      assign.wpIn (Fence.wide.inRound l) 0 P (Exit.then K (fun _ _ _ => False)) { tmps := (ps.zip (encs x)).foldl (fun t (p, v) => t.setIfInBounds p v) a.tmps, defers := [] } W)
    (hbody : ∀ (l : Nat) (pre : List α) (x : α) (q : Nat) (W : World), I pre W → Blk W q (Bx x) tb → Sp (pre ++ [x]) → body.wpIn (Fence.wide.inRound l) 0 P (ownPostT X w.heap.size T I Ix (pre ++ [x]) W) (act x q) W)
    (hrest : ∀ (D : Nat) (xs : List α) (W : World), w.heap.size ≤ D → Fin xs W → W.heap[D]? = some (.deferred (some [])) → Q .normal { a with defers := { target := .collected D, args := #[] } :: a.defers } W) :
    (Code.rangeFunc g ps assign body).wpIn Fence.wide 1 P Q a w :=
  wpIn_rangeStOne hg eg hseq hps I Ix hI hIx h0 id Fin hfin hfix hqe (fun x a' W => ∃ q, a' = act x q ∧ Blk W q (Bx x) tb)
    (fun x a' => fun s W1 W2 row h hg hr => by
      obtain ⟨q, e, hb⟩ := h
      exact ⟨q, e, stays_cells (β := Unit) _ _ _ _ () W1 W2 row hb hg hr⟩)
    (fun l pre x W K hi hsp hK => hassign l pre x W K hi hsp (fun q hq => hK _ _ (KeepsT.low (below_new W _)) (hI.low hi (below_new W _)) ⟨q, rfl, by subst hq; exact Blk.new W _ _⟩))
    (fun l pre x a' W h1 h2 h3 => by obtain ⟨q, rfl, hb⟩ := h2; exact hbody l pre x q W h1 hb h3) hrest
end Go.Port
namespace Go.Port
open Go.RowKit Go.ChangeShapes Go.WideShapes
section
variable {H : Type} {enc : TypeId × Value → H} {P : Program} {W W' : World}
theorem trodAll_low : ∀ {ts : List TypeId} {vs : List Value} {ds : List (DataW H)} {ps : List MemPlace} {sp : Nat → Bool}, DataW.TrodAll enc P W 0 sp true ts vs ds ps → Below W.heap.size W W' → DataW.TrodAll enc P W' 0 sp true ts vs ds ps
  | [], [], [], _, _, h, _ => h
  | _ :: _, _ :: _, _ :: _, _, _, ⟨p, q, ⟨n, hn⟩, h2, e⟩, hb => ⟨p, q, ⟨n, DataW.trod_carry n _ _ _ hn (fun x hx => hb.same (DataW.trod_lt n _ _ _ hn x hx))⟩, trodAll_low h2 hb, e⟩
/-- A law's end: it has returned true, and what lay lies. -/
theorem law_post {T : TypeId → Prop} (K : Kids P T) (hz : ∀ t e, T t → P.underlying t = some (.slice e) → 0 < P.cellsOf e) {f : Func} {s : ChangeSpec} {t4 : TypeId} (h4 : P.underlying t4 = some .bool) (hr : f.resultTypes = #[t4]) (hv : s.vars = [])
    {args : Array Value} {ds : List (DataW H)} {before : List MemPlace} (hW : DataW.Whole enc P f.params.toList s.vars false W args.toList ds [] before) (hT : ∀ t ∈ f.params.toList, T t)
    (hs1 : (s.fn H (ds ++ [])).results = [.lit (.bool true)]) (hs2 : (s.fn H (ds ++ [])).args = ds) (hs3 : (s.fn H (ds ++ [])).vars = []) (hb : Below W.heap.size W W') :
    s.post enc P f false true false false W args (.bool true) W' := by
  have hW' := hW
  obtain ⟨p, q, hA, hV, rfl, _, _⟩ := hW
  rw [hv] at hV
  obtain rfl : q = [] := hV
  refine ⟨ds, [], _, [], p, [], hW', ?_, ?_, ?_, hb.frame _, fun h => by cases h⟩
  · rw [hs1, hr]
    exact trodAll_cons_mk (shut_bool h4 _) trodAll_mk0
  · rw [hs2]
    refine trodAll_low (DataW.TrodAll.respare K hz hT hA (fun x hx => ?_)) hb
    simpa using hW'.lt x (by simpa using hx)
  · rw [hs3, hv]
    rfl
/-- The value is a slice of n elements of sz cells each that reads as cs; where it is empty nothing is known of its address. -/
def Rs (w : World) (sz : Nat) (v : Value) (n : Nat) (cs : List Value) : Prop :=
  cs.length = n * sz ∧ ∃ a c, v = .slice a n c ∧ n ≤ c ∧ c ≤ maxLen ∧ (a = none → c = 0) ∧ ∀ j u, cs[j]? = some u → ∃ b off, a = some ⟨b, off, none⟩ ∧ b < w.heap.size ∧ w.cell? ⟨b, off + j, none⟩ = some u
theorem Rs.of_sl {w : World} {sz n : Nat} {v : Value} {cs : List Value} (h : Sl w sz v n cs) : Rs w sz v n cs := ⟨h.1, h.open⟩
theorem Rs.below {w w' : World} {sz n : Nat} {v : Value} {cs : List Value} (h : Rs w sz v n cs) (hb : Below w.heap.size w w') : Rs w' sz v n cs := by
  obtain ⟨h0, a, c, h1, h2, h3, h4, h5⟩ := h
  refine ⟨h0, a, c, h1, h2, h3, h4, fun j u hu => ?_⟩
  obtain ⟨b, off, k1, k2, k3⟩ := h5 j u hu
  exact ⟨b, off, k1, Nat.lt_of_lt_of_le k2 hb.size, (hb.cell (p := ⟨b, off + j, none⟩) k2).trans k3⟩
/-- A slice of integers of any kind, opened. -/
theorem open_row {k : IntKind} {t e : TypeId} (ht : P.underlying t = some (.slice e)) (he : P.underlying e = some (.int k)) (hc : P.cellsOf e = 1) {v : Value} {cs : List Value} {m : Nat} {x : DataW H × List MemPlace} (hcs : cs = [v])
    (hf : DataW.trod enc P W 0 (fun _ => true) true m t cs = some x) : ∃ l : List Int, Rs W 1 v l.length (l.map (Value.int k)) ∧ ∀ x ∈ l, (Lit.int k x).wf = true := by
  subst hcs
  rcases open_ints ht he hc hf with ⟨hcs, _⟩ | ⟨a', n, c, zs, hcs, _, hl, hm, hlen, _, hcell, hwf⟩
  · simp only [List.cons.injEq, and_true] at hcs
    subst hcs
    exact ⟨[], Rs.of_sl (Sl.nil W 1), fun x hx => by simp at hx⟩
  · simp only [List.cons.injEq, and_true] at hcs
    subst hcs
    simp only [if_true] at hlen
    have hln : (zs.take n).length = n := by rw [List.length_take]; omega
    refine ⟨zs.take n, ⟨by simp, some a', c, by rw [hln], by rw [hln]; exact hl, hm, (fun h => by cases h), fun j u hu => ?_⟩, fun x hx => hwf x (List.mem_of_mem_take hx)⟩
    rw [List.getElem?_map] at hu
    obtain ⟨x, hx, rfl⟩ := Option.map_eq_some_iff.1 hu
    have hj : j < n := by
      have := (List.getElem?_eq_some_iff.1 hx).1
      rwa [hln] at this
    obtain ⟨b, off, rfl, h⟩ := ints_at hcell (by omega)
    refine ⟨b, off, rfl, World.block_lt_of_cell? W _ (h 0 (by omega)), ?_⟩
    rw [h j (by omega)]
    rw [List.getElem?_take_of_lt hj] at hx
    simp [List.getD_eq_getElem?_getD, hx]
theorem open_rowV {k : IntKind} {t e : TypeId} (ht : P.underlying t = some (.slice e)) (he : P.underlying e = some (.int k)) (hc : P.cellsOf e = 1) {v : Value} {d : DataW H} {ps : List MemPlace} {b0 : Nat}
    (hv : Value.okWide P W .any b0 t v) (hd : DataW.Trod enc P W 0 (fun _ => true) true t v d ps) : ∃ l : List Int, Rs W 1 v l.length (l.map (Value.int k)) ∧ ∀ x ∈ l, (Lit.int k x).wf = true := by
  obtain ⟨a, n, c, rfl⟩ := okWide_slice ht hv
  obtain ⟨m, hf⟩ := hd
  exact open_row ht he hc rfl hf
theorem bytes_of {l : List Int} (h : ∀ x ∈ l, (Lit.int .u8 x).wf = true) : ∃ bs : List UInt8, l.map (Value.int .u8) = bs.map bv ∧ bs.length = l.length := by
  refine ⟨l.map fun x => UInt8.ofNat x.toNat, ?_, by simp⟩
  rw [List.map_map]
  refine List.map_congr_left fun x hx => ?_
  have := bounds_u8 (h x hx)
  simp only [bv, Function.comp_apply, UInt8.toNat_ofNat']
  congr 1
  omega
end
end Go.Port
namespace Go.Proofs.YtiagbejfghincaaGreat
open Go.RowKit Go.Port
theorem Tryz.own : ownKnob Tryz.prog.godebug = none := by kernel_rfl
theorem Tryz.kids : Kids Tryz.prog (· < Tryz.prog.types.size) := kids_rows (by kernel_rfl) (by kernel_rfl)
theorem Tryz.full : ∀ t e, t < Tryz.prog.types.size → Tryz.prog.underlying t = some (.slice e) → 0 < Tryz.prog.cellsOf e := slices_full_of Tryz.prog (by kernel_rfl)
end Go.Proofs.YtiagbejfghincaaGreat
