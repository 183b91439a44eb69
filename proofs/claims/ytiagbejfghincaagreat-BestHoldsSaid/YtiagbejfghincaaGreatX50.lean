/-
  A region of open order inside a round, with loads beside calls: held by a condition on the world. Over no program.
-/
import Derived.Test.YtiagbejfghincaaGreatX08
import Derived.Deep.RegionHeld3
namespace Go.Port
open Go.RowKit
/-- A post that bars a panic and an outgrown end. -/
def NoOut (Q : Exit → Act → World → Prop) : Exit → Act → World → Prop
  | .panic _, _, _ => False
  | .outgrown, _, _ => False
  | e, a, w => Q e a w
theorem NoOut.normal {Q : Exit → Act → World → Prop} {a : Act} {w : World} (h : Q .normal a w) : NoOut Q .normal a w := h
theorem NoOut.imp {Q : Exit → Act → World → Prop} : ∀ (e : Exit) (a : Act) (w : World), NoOut Q e a w → Q e a w := fun e a w h => by
  cases e <;> first | exact h | exact (h : False).elim
theorem rowsIn_wide {n : Nat} {P : Program} {row : String} {args : Array Value} {w : World} {R : Value → World → Prop} (h : Rows P row args w R) : RowsIn Fence.wide n P row args w R :=
  fun c cs _ => let ⟨v, w', r, s⟩ := h c cs; ⟨v, w', r, stepsIn_wide.2 s⟩
theorem oper_wpIn_of_wp {n : Nat} {P : Program} {o : Oper} {a : Act} {w : World} {K : Act → World → Prop} {Q : Exit → Act → World → Prop} (h : Oper.wp P o a w K Q) : Oper.wpIn Fence.wide n P o a w K Q := by
  refine ⟨fun _ _ => trivial, ?_⟩
  rw [show Fence.wide.round = none from rfl, Oper.semAt_none]
  unfold Oper.wp at h
  generalize (execOp a.eval o).run P w = r at h ⊢
  cases r with
  | ok x w' =>
    cases x <;> first
      | exact h
      | exact (h : False).elim
      | exact ⟨fun e => by simp [Fence.wide] at e, callsIn_wide.2 h⟩
      | exact ⟨fun e => by simp [Fence.wide] at e, rowsIn_wide h⟩
  | halt x w' => cases x <;> first | exact h | exact (h : False).elim
theorem letsOut_no (Q : Exit → Act → World → Prop) : ¬ LetsOut (NoOut Q) := fun ⟨_, _, h⟩ => h
theorem wpAnyIn_of_wpAny {n : Nat} {P : Program} {md : Region.Mode} {ops : Array Oper} {Q : Exit → Act → World → Prop} :
    ∀ (fuel : Nat) (listed : Array Bool) (a : Act) (w : World), wpAny P md ops (NoOut Q) fuel listed a w → wpAnyIn Fence.wide n P md ops (NoOut Q) fuel listed a w := by
  intro fuel
  induction fuel with
  | zero => intro listed a w h; exact h
  | succ fuel ih =>
    intro listed a w ⟨h1, h2⟩
    refine ⟨h1, fun i hi => ?_⟩
    have h := h2 i hi
    unfold wpOp at h
    unfold wpOpIn
    split
    · rename_i ho
      simp only [ho] at h
      exact ih _ _ _ h
    · rename_i o ho
      simp only [ho] at h
      split
      · rename_i hw
        simp only [hw, if_true] at h
        rcases h with h | h
        · exact Oper.wpIn_mono (fun a w h => ih _ a w h) (oper_wpIn_of_wp h)
        · exact absurd h.2 (letsOut_no Q)
      · rename_i hw
        simp only [hw] at h
        exact ⟨fun _ _ => trivial, ih _ _ _ h⟩
/-- A region of open order inside a round. -/
theorem wpIn_region_round_held {n : Nat} {P : Program} {id : Nat} {Q : Exit → Act → World → Prop} {a : Act} {w : World} {ops : List Oper} {l : Nat} (S : World → Prop) (hd : ops.all noDefer = true) (hm : P.follows .mixedOrders = true) (hS : S w.drew)
    (h : S w.drew → wpAnyH P .any ops.toArray (NoOut Q) S ops.toArray.size (Array.replicate ops.toArray.size false) a w.drew) : (Code.region id ops.toArray true).wpIn (Fence.wide.inRound l) n P Q a w := by
  refine wpIn_mono (Q := NoOut Q) (wpIn_region_any hm (wpAnyIn_inRound rfl l (fun i o ho c e => ?_) _ _ _ _ (wpAnyIn_of_wpAny _ _ _ _ (wpAny_of_held _ _ _ _ (h hS))))) NoOut.imp
  have hm := List.all_eq_true.1 hd o (List.mem_of_getElem? (by simpa using ho))
  unfold noDefer at hm
  rw [e] at hm
  cases hm
end Go.Port
