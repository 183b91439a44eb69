/-
  A region of open order by one invariant on what has been done: every operation is looked at once. Over no program.
-/
import Derived.WalkKit
import Derived.RegionTactic
import Derived.Below
namespace Go.Port
open Go
/-- How many are not done. -/
def unlisted (l : Array Bool) : Nat := l.toList.countP (fun b => !b)
theorem unlisted_set {l : Array Bool} {i : Nat} (h : l.getD i true = false) : unlisted (l.setIfInBounds i true) + 1 = unlisted l := by
  have hlt : i < l.size := by
    rcases Nat.lt_or_ge i l.size with h1 | h1
    · exact h1
    · rw [Array.getD_eq_getD_getElem?, Array.getElem?_eq_none h1] at h; cases h
  have hv : l.toList[i]'(by simpa using hlt) = false := by
    rw [Array.getD_eq_getD_getElem?, Array.getElem?_eq_getElem hlt] at h
    simpa using h
  unfold unlisted
  rw [Array.toList_setIfInBounds]
  have e : l.toList = l.toList.take i ++ l.toList[i]'(by simpa using hlt) :: l.toList.drop (i + 1) := by
    rw [← List.drop_eq_getElem_cons, List.take_append_drop]
  have e2 : l.toList.set i true = l.toList.take i ++ true :: l.toList.drop (i + 1) := List.set_eq_take_append_cons_drop .. |>.trans (by rw [if_pos (by simpa using hlt)])
  rw [e2]
  conv => rhs; rw [e]
  rw [hv]
  simp only [List.countP_append, List.countP_cons]
  simp
  omega
theorem unlisted_zero {l : Array Bool} (h : unlisted l = 0) (i : Nat) : l.getD i true = true := by
  unfold unlisted at h
  rw [List.countP_eq_zero] at h
  rw [Array.getD_eq_getD_getElem?]
  cases e : l[i]? with
  | none => rfl
  | some b =>
    have := h b (by
      obtain ⟨h1, h2⟩ := Array.getElem?_eq_some_iff.1 e
      rw [← h2]; simp)
    simpa using this
/-- Each waits for earlier ones alone. -/
def fore (ops : Array Oper) : Bool := (List.range ops.size).all fun i => match ops[i]? with
  | some o => o.after.all fun e => decide (e.on < i)
  | none => true
theorem fore_spec {ops : Array Oper} (h : fore ops = true) {i : Nat} {o : Oper} (ho : ops[i]? = some o) : ∀ e ∈ o.after, e.on < i := by
  unfold fore at h
  rw [List.all_eq_true] at h
  have hlt : i < ops.size := (Array.getElem?_eq_some_iff.1 ho).1
  have := h i (by simpa using hlt)
  rw [ho] at this
  intro e he
  simpa using Array.all_eq_true_iff_forall_mem.1 this e he
theorem ready_nil {md : Region.Mode} {ops : Array Oper} {listed : Array Bool} (hf : fore ops = true) (hs : listed.size = ops.size) (h : Region.ready md ops listed = []) : ∀ i, listed.getD i true = true := by
  intro i
  induction i using Nat.strongRecOn with
  | _ i ih =>
    cases e : listed.getD i true with
    | true => rfl
    | false =>
      exfalso
      have hlt : i < listed.size := by
        rcases Nat.lt_or_ge i listed.size with h1 | h1
        · exact h1
        · rw [Array.getD_eq_getD_getElem?, Array.getElem?_eq_none h1] at e; cases e
      have hlo : i < ops.size := by omega
      have hm : i ∈ Region.ready md ops listed := mem_ready.2 ⟨e, ops[i], Array.getElem?_eq_getElem hlo, fun d hd _ => by
        have h1 := fore_spec hf (Array.getElem?_eq_getElem hlo) d hd
        have h2 := ih d.on h1
        rw [Array.getD_eq_getD_getElem?] at h2 ⊢
        rw [Array.getElem?_eq_getElem (by omega)] at h2 ⊢
        exact h2⟩
      rw [h] at hm
      cases hm
variable {P : Program} {md : Region.Mode} {ops : Array Oper} {Q : Exit → Act → World → Prop}
theorem wpAny_inv (hf : fore ops = true) (Inv : Array Bool → Act → World → Prop)
    (hstep : ∀ (i : Nat) (o : Oper), ops[i]? = some o → ∀ (listed : Array Bool) (a : Act) (W : World), listed.size = ops.size → Inv listed a W → listed.getD i true = false → (∀ e ∈ o.after, Region.binds md e = true → listed.getD e.on false = true) →
      ∀ K' : Act → World → Prop, (∀ a' W', Inv (listed.setIfInBounds i true) a' W' → K' a' W') → if Region.wanted o (yielded ops a.tmps) = true then Oper.wp P o a W K' Q else K' (a.put o.dst undef) W)
    (hend : ∀ (listed : Array Bool) (a : Act) (W : World), listed.size = ops.size → Inv listed a W → (∀ i, listed.getD i true = true) → Q .normal a W) :
    ∀ (fuel : Nat) (listed : Array Bool) (a : Act) (W : World), listed.size = ops.size → Inv listed a W → unlisted listed ≤ fuel → wpAny P md ops Q fuel listed a W := by
  intro fuel
  induction fuel with
  | zero =>
    intro listed a W hs hi hu
    have hall := unlisted_zero (Nat.le_zero.1 hu)
    refine ⟨?_, hend listed a W hs hi hall⟩
    cases e : Region.ready md ops listed with
    | nil => rfl
    | cons j r =>
      have : j ∈ Region.ready md ops listed := by rw [e]; simp
      have h2 := (mem_ready.1 this).1
      rw [hall j] at h2
      cases h2
  | succ fuel ih =>
    intro listed a W hs hi hu
    refine ⟨fun hr => hend listed a W hs hi (ready_nil hf hs hr), fun i hm => ?_⟩
    obtain ⟨h1, o, ho, hd⟩ := mem_ready.1 hm
    refine wpOp_step ho fun K' hK => hstep i o ho listed a W hs hi h1 hd K' fun a' W' hi' => hK a' W' (ih _ a' W' (by simpa using hs) hi' ?_)
    have := unlisted_set h1
    omega
theorem getD_set_ne' {l : Array Bool} {i j : Nat} (d : Bool) (h : i ≠ j) : (l.setIfInBounds i true).getD j d = l.getD j d := by
  rw [Array.getD_eq_getD_getElem?, Array.getD_eq_getD_getElem?, Array.getElem?_setIfInBounds_ne h]
theorem getD_set_eq {l : Array Bool} {i : Nat} (d : Bool) (h : i < l.size) : (l.setIfInBounds i true).getD i d = true := by
  rw [Array.getD_eq_getD_getElem?, Array.getElem?_setIfInBounds_self_of_lt h]
  rfl
end Go.Port
