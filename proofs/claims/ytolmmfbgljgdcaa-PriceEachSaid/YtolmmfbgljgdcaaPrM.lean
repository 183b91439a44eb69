/-
  The walks of layer 32 (price): the iterator over the prefixes of an absent model.
-/
import Derived.Test.YtolmmfbgljgdcaaPrN
import Derived.TacticsInMore
import Derived.LoopNIn
import Derived.LoopIn
import Derived.WalkMore
namespace Go.Proofs.Ytolmmfbgljgdcaa
open Go.RowKit Go.Port

set_option maxRecDepth 100000 in
theorem prpre1_none {α : Type} (encs : α → Array Value) (X : Nat → Prop) (T : TypeId → Bool) (q1 q2 : Nat) (p : Option Addr) (w0 : World) (hb : Blk w0 q1 [.pointer p] 27) (h : NoPr w0 p) :
    SeqSt Try.prog 60 #[.pointer (some ⟨q1, 0, none⟩), .pointer (some ⟨q2, 0, none⟩)] encs (fun xs => xs = []) (fun xs => ∃ rest, xs ++ rest = []) X T w0 := by
  intro lp J Jx W hW hJ hJx hY hJ0
  have c0 := (hb.below hW hb.lt).cell (k := 0) rfl
  have HN := hid (callsIn_wide (n := 0) |>.2 (prno_none W p (h.low hW)))
  clear hY hb h hW hJx hJ
  refine callsIn_of_wp Try.func60 rfl trivial ?_ rfl
  simp only [Try.ntmps60, List.size_toArray, List.length_cons, List.length_nil, Nat.reduceAdd, Nat.reduceSub, Array.replicate_succ, Array.replicate_zero, List.push_toArray, List.append_toArray, List.nil_append, List.cons_append]
  gi_wp2
  refine wpIn_wide.2 (wp_scope_straight ((wpIn_wide (n := 0)).1 ?_))
  gi_wp2_with (refine ⟨trivial, rfl, ?_⟩; refine HN.out.mono ?_; rintro e w' ⟨rfl, rfl⟩)
  simp only [Exit.noGoto_ret]
  refine bodyPost_ret (results_none rfl _ _ _) rfl ?_
  exact ⟨⟨_, rfl⟩, .inl ⟨_, rfl, hJ0⟩⟩
end Go.Proofs.Ytolmmfbgljgdcaa
