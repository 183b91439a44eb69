/-
  What the law of the iterator leans on, second part: a range over a function that is left by one way out; what holds between its rounds.
-/
import Derived.Test.YtadnhjloeaddnaaSplitV
import Derived.Sort.QuietIn
namespace Go.Port
open Go.RowKit

/-- What holds of a region of open order outside a round holds inside one, where no operation defers. -/
theorem wpAnyIn_inRound {F : Fence} {n : Nat} {P : Program} {md : Region.Mode} {ops : Array Oper} {Q : Exit → Act → World → Prop} (hro : F.round = none) (l : Nat) (hd : ∀ (i : Nat) (o : Oper), ops[i]? = some o → ∀ c, o.op ≠ .defer c) :
    ∀ (fuel : Nat) (listed : Array Bool) (a : Act) (w : World), wpAnyIn F n P md ops Q fuel listed a w → wpAnyIn (F.inRound l) n P md ops Q fuel listed a w := by
  intro fuel
  induction fuel with
  | zero => intro listed a w h; exact h
  | succ fuel ih =>
    intro listed a w ⟨h1, h2⟩
    refine ⟨h1, fun i hi => ?_⟩
    have h := h2 i hi
    unfold wpOpIn at h ⊢
    split
    · rename_i ho
      simp only [ho] at h
      exact ih _ _ _ h
    · rename_i o ho
      simp only [ho] at h
      split
      · rename_i hw
        simp only [hw, if_true] at h
        have h' := Oper.wpIn_mono (fun a w h => ih _ a w h) h
        refine ⟨h'.1, ?_⟩
        have e := Oper.semAt_some l a.eval o (hd i o ho)
        have h3 := h'.2
        rw [hro, Oper.semAt_none] at h3
        rw [Fence.inRound_round, e]
        generalize (execOp a.eval o).run P w = r at h3 ⊢
        cases r with
        | ok x w' => cases x <;> exact h3
        | halt x w' => cases x <;> exact h3
      · rename_i hw
        simp only [hw] at h
        exact ⟨h.1, ih _ _ _ h.2⟩

def noDefer (o : Oper) : Bool := match o.op with
  | .defer _ => false
  | _ => true

theorem wpIn_region_round_lit {n : Nat} {P : Program} {id : Nat} {Q : Exit → Act → World → Prop} {a : Act} {w : World} {ops : List Oper} {l : Nat} (hd : ops.all noDefer = true) (hm : P.follows .mixedOrders = true) (hB : Region.lexB .any ops.toArray = true)
    (h : wpQuietIn Fence.wide n P ops.toArray (fun w' => ∃ n, w' = w.drewN n) (fun a' => ∀ w', (∃ n, w' = w.drewN n) → Q .normal a' w') ops a) : (Code.region id ops.toArray true).wpIn (Fence.wide.inRound l) n P Q a w := by
  simp only [Region.lexB, Bool.and_eq_true] at hB
  refine wpIn_region_any hm (wpAnyIn_inRound rfl l (fun i o ho c e => ?_) _ _ _ _ (wpAnyIn_of_quiet (C := fun w' => ∃ n, w' = w.drewN n) (Q := fun a' => ∀ w', (∃ n, w' = w.drewN n) → Q .normal a' w') rfl (fun _ w' hw' h => h w' hw') _ _ _ _ ⟨1, rfl⟩ ?_))
  · have hm := List.all_eq_true.1 hd o (List.mem_of_getElem? (by simpa using ho))
    unfold noDefer at hm
    rw [e] at hm
    cases hm
  · have := wpAnyQIn_lex (F := Fence.wide) (n := n) (P := P) (C := fun w' => ∃ n, w' = w.drewN n) (md := .any) hB.1 ops 0 (Array.replicate ops.length false) a (by simp) (by simpa using hB.2) h
    simpa using this


set_option maxHeartbeats 1000000 in
/-- A range over a function whose early way out leads where its end leads. -/
theorem wpIn_rangeOne {α : Type} {P : Program} {g : Operand} {ps : Array Tmp} {assign body : Code} {Q : Exit → Act → World → Prop} {a : Act} {w : World} {gf : Nat} {lb : Array Value}
    (hg : a.eval g = .func (.func gf) #[] lb) (eg : ∀ args w, (callFunc gf args).run P w = .ok (.enter gf args) w)
    {encs : α → Array Value} {Ad : α → World → Prop} {S Sp : List α → Prop} {Kp : World → World → Prop} (hKt : ∀ {A B C : World}, Kp A B → Kp B C → Kp A C)
    (hKb : ∀ (A : World) (o o' : Obj), A.heap[w.heap.size + 1]? = some o → o.isCells = false → Kp A (A.putObj (w.heap.size + 1) o')) (hseq : SeqAd P gf lb encs Ad S Sp Kp w) (hps : ∀ x, (encs x).size = ps.size)
    (I : List α → World → Prop) (Ix : Code → List α → World → Prop) (hI : Stays w.heap.size I) (hIx : ∀ c, Stays w.heap.size (Ix c)) (hAd : Stays w.heap.size Ad) (h0 : I [] w)
    (id : Nat) (Fin : List α → World → Prop) (hfin : ∀ xs W, S xs → I xs W → Fin xs W) (hfix : ∀ c xs W, Sp xs → Ix c xs W → c = .exit id ∧ Fin xs W) (hqe : ∀ a w, Q .normal a w → Q (.exit id) a w)
    (a₁ : α → Act)
    (hassign : ∀ (l : Nat) (x : α) (W : World) (K : Act → World → Prop), K (a₁ x) W →
      assign.wpIn (Fence.wide.inRound l) 0 P (Exit.then K (fun _ _ _ => False)) { tmps := (ps.zip (encs x)).foldl (fun t (p, v) => t.setIfInBounds p v) a.tmps, defers := [] } W)
    (hbody : ∀ (l : Nat) (pre : List α) (x : α) (W : World), I pre W → Ad x W → Sp (pre ++ [x]) → body.wpIn (Fence.wide.inRound l) 0 P (ownPostK Kp I Ix (pre ++ [x]) W) (a₁ x) W)
    (hrest : ∀ (D : Nat) (xs : List α) (W : World), w.heap.size ≤ D → Fin xs W → W.heap[D]? = some (.deferred (some [])) → Q .normal { a with defers := { target := .collected D, args := #[] } :: a.defers } W) :
    (Code.rangeFunc g ps assign body).wpIn Fence.wide 1 P Q a w := by
  refine wpIn_rangeAd (S := S) (Sp := Sp) (Kp := Kp) hg eg hKt hKb hseq hps I Ix hI hIx hAd h0 a₁ hassign hbody (fun D xs W h1 h2 h3 h4 => hrest D xs W h1 (hfin xs W h2 h3) h4) (fun D c xs W h1 h2 h3 h4 => ?_)
  obtain ⟨rfl, hf⟩ := hfix c xs W h2 h3
  exact wpIn_exit (hqe _ _ (hrest D xs W h1 hf h4))

theorem partsGo_len (bs : List UInt8) (l : List Int) : ∀ T, (partsGo bs T l).length = l.length := by
  induction l with
  | nil => intro T; rfl
  | cons x r ih => intro T; simp [partsGo, ih]
theorem fullP_small (bs : List UInt8) (l : List Int) : (fullP bs l).length ≤ l.length + 1 := by
  unfold fullP
  split
  · rw [partsGo_len]; simp
  · simp

/-- The cells of a turn: how many parts came, where the next one starts. -/
def ITm (wb : World) (t3 : TypeId) (xs : List PEl) (W : World) : Prop :=
  Blk W wb.heap.size [.int .i64 (xs.length : Int)] t3 ∧ Blk W (wb.heap.size + 1) [.int .i64 ((allP xs).length : Int)] t3 ∧ Below wb.heap.size wb W
theorem ITm_stays (wb : World) (t3 : TypeId) {B : Nat} (hB : wb.heap.size + 2 ≤ B) : Stays B (ITm wb t3) := fun _ _ _ _ ⟨h1, h2, h3⟩ hg hr =>
  ⟨h1.grown hg (fun e => by have := (hr _ e.symm).1; omega), h2.grown hg (fun e => by have := (hr _ e.symm).1; omega), h3.grown hg h3.size (fun k hk => by have := (hr _ hk).1; omega)⟩
theorem ITm_next {wb W : World} {t3 : TypeId} {pre : List PEl} (h : ITm wb t3 pre W) (x : PEl) :
    ITm wb t3 (pre ++ [x]) ((W.setCell ⟨wb.heap.size + 1, 0, none⟩ (.int .i64 (((allP pre).length : Int) + (x.2.2.length : Int)))).setCell ⟨wb.heap.size, 0, none⟩ (.int .i64 ((pre.length : Int) + 1))) := by
  obtain ⟨h1, h2, h3⟩ := h
  have e1 : ((pre ++ [x]).length : Int) = (pre.length : Int) + 1 := by simp
  have e2 : ((allP (pre ++ [x])).length : Int) = ((allP pre).length : Int) + (x.2.2.length : Int) := by rw [allP_snoc]; simp
  refine ⟨?_, ?_, (h3.setCell (p := ⟨wb.heap.size + 1, 0, none⟩) (Nat.le_succ _) _).setCell (Nat.le_refl _) _⟩
  · rw [e1]
    exact (h1.other (a := ⟨wb.heap.size + 1, 0, none⟩) _ (by simp)).set 0 _
  · rw [e2]
    exact (h2.set 0 _).other (a := ⟨wb.heap.size, 0, none⟩) _ (by simp)

theorem ITm_drew {wb W : World} {t3 : TypeId} {pre : List PEl} (h : ITm wb t3 pre W) (q : Nat) : ITm wb t3 pre (W.drewN q) := by
  obtain ⟨h1, h2, h3⟩ := h
  exact ⟨h1, h2, h3.os, h3.tape, h3.output, h3.size, h3.block⟩
/-- What a round does. -/
theorem ITm_round {wb W : World} {t3 : TypeId} {pre : List PEl} (h : ITm wb t3 pre W) (x : PEl) (q : Nat) (u v : Value) (hu : u = .int .i64 (((allP pre).length : Int) + (x.2.2.length : Int))) (hv : v = .int .i64 ((pre.length : Int) + 1)) :
    let W' := ((W.drewN q).setCell ⟨wb.heap.size + 1, 0, none⟩ u).setCell ⟨wb.heap.size, 0, none⟩ v
    KeepsOthers W W' ∧ KeepsBut (fun k => wb.heap.size ≤ k) W W' ∧ ITm wb t3 (pre ++ [x]) W' := by
  subst hu hv
  dsimp only
  have k0 : KeepsOthers W (W.drewN q) := ⟨Nat.le_refl _, fun _ _ h _ => h⟩
  have k1 : KeepsBut (fun k => wb.heap.size ≤ k) W (W.drewN q) := fun _ _ h _ _ => h
  exact ⟨(k0.trans (KeepsOthers.setCell _ _ _)).trans (KeepsOthers.setCell _ _ _), (k1.trans (KeepsBut.set _ ⟨wb.heap.size + 1, 0, none⟩ _ (Nat.le_succ _))).trans (KeepsBut.set _ ⟨wb.heap.size, 0, none⟩ _ (Nat.le_refl _)), ITm_next (ITm_drew h q) x⟩

/-- Between two rounds; at the way out; afterwards. -/
def IT (wb : World) (t3 : TypeId) (many : Int) (first : Bool) (xs : List PEl) (W : World) : Prop := ITm wb t3 xs W ∧ (first = true → xs.length = 0 ∨ (xs.length : Int) < many)
def IXt (wb : World) (t3 : TypeId) (many : Int) (first : Bool) (id : Nat) (c : Code) (xs : List PEl) (W : World) : Prop :=
  ITm wb t3 xs W ∧ c = .exit id ∧ first = true ∧ 0 < xs.length ∧ many ≤ (xs.length : Int) ∧ (xs.length = 1 ∨ (xs.length : Int) - 1 < many)
def FT (wb : World) (t3 : TypeId) (many : Int) (first : Bool) (n : Nat) (xs : List PEl) (W : World) : Prop :=
  ITm wb t3 xs W ∧ (first = true → (xs.length : Int) = min (n : Int) (max 1 many)) ∧ (first = false → xs.length = n)
theorem IXt_of {wb W : World} {t3 : TypeId} {many : Int} {id : Nat} {pre : List PEl} {x : PEl} (h : ITm wb t3 (pre ++ [x]) W) (h4 : pre.length = 0 ∨ (pre.length : Int) < many) (hm : many ≤ (pre.length : Int) + 1) : IXt wb t3 many true id (.exit id) (pre ++ [x]) W := by
  refine ⟨h, rfl, rfl, ?_, ?_, ?_⟩ <;> simp only [List.length_append, List.length_cons, List.length_nil] <;> omega
theorem IT_of {wb W : World} {t3 : TypeId} {many : Int} {first : Bool} {pre : List PEl} {x : PEl} (h : ITm wb t3 (pre ++ [x]) W) (hm : (pre.length : Int) + 1 < many) : IT wb t3 many first (pre ++ [x]) W :=
  ⟨h, fun _ => .inr (by simp only [List.length_append, List.length_cons, List.length_nil]; omega)⟩
theorem IT_late {wb W : World} {t3 : TypeId} {many : Int} {pre : List PEl} {x : PEl} (h : ITm wb t3 (pre ++ [x]) W) : IT wb t3 many false (pre ++ [x]) W := ⟨h, fun e => by cases e⟩
theorem IT_stays (wb : World) (t3 : TypeId) (many : Int) (first : Bool) {B : Nat} (hB : wb.heap.size + 2 ≤ B) : Stays B (IT wb t3 many first) := fun x W W' row ⟨h1, h2⟩ hg hr => ⟨ITm_stays wb t3 hB x W W' row h1 hg hr, h2⟩
theorem IXt_stays (wb : World) (t3 : TypeId) (many : Int) (first : Bool) (id : Nat) (c : Code) {B : Nat} (hB : wb.heap.size + 2 ≤ B) : Stays B (IXt wb t3 many first id c) := fun x W W' row ⟨h1, h2⟩ hg hr => ⟨ITm_stays wb t3 hB x W W' row h1 hg hr, h2⟩
theorem IT_fin {wb : World} {t3 : TypeId} {many : Int} {first : Bool} {bs : List UInt8} {cuts : List Int} (xs : List PEl) (W : World) (hS : dataP xs = fullP bs cuts) (h : IT wb t3 many first xs W) : FT wb t3 many first (fullP bs cuts).length xs W := by
  have hl := all_parts hS
  refine ⟨h.1, fun hf => ?_, fun _ => hl⟩
  have := h.2 hf
  omega
theorem IXt_fin {wb : World} {t3 : TypeId} {many : Int} {first : Bool} {id : Nat} {bs : List UInt8} {cuts : List Int} (c : Code) (xs : List PEl) (W : World) (hS : ∃ rest, dataP xs ++ rest = fullP bs cuts) (h : IXt wb t3 many first id c xs W) : c = .exit id ∧ FT wb t3 many first (fullP bs cuts).length xs W := by
  have hl := pre_parts hS
  obtain ⟨h1, h2, h3, h4, h5, h6⟩ := h
  refine ⟨h2, h1, fun _ => by omega, fun hf => by rw [h3] at hf; cases hf⟩
end Go.Port
