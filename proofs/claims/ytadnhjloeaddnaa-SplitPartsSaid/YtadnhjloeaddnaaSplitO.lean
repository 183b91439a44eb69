/-
  The walks of the split, fifteenth part: the chapter's examples.
-/
import Derived.Test.YtadnhjloeaddnaaSplitN
namespace Go.Port
open Go.RowKit
theorem Blk.at' {W : World} {b : Nat} {vs : List Value} {t : TypeId} (h : Blk W b vs t) : ∀ (j : Nat) (u : Value), vs[j]? = some u → ∃ b' off, (some ⟨b, 0, none⟩ : Option Addr) = some ⟨b', off, none⟩ ∧ b' < W.heap.size ∧ W.cell? ⟨b', off + j, none⟩ = some u :=
  fun j u hu => ⟨b, 0, rfl, h.lt, by rw [Nat.zero_add]; exact h.cell hu⟩

/-- Block b reads as vs from its head on. -/
structure Rd (W : World) (b : Nat) (vs : List Value) : Prop where
  lt : b < W.heap.size
  cell : ∀ (j : Nat) (u : Value), vs[j]? = some u → W.cell? ⟨b, j, none⟩ = some u
theorem Rd.at' {W : World} {b : Nat} {vs : List Value} (h : Rd W b vs) : ∀ (j : Nat) (u : Value), vs[j]? = some u → ∃ b' off, (some ⟨b, 0, none⟩ : Option Addr) = some ⟨b', off, none⟩ ∧ b' < W.heap.size ∧ W.cell? ⟨b', off + j, none⟩ = some u :=
  fun j u hu => ⟨b, 0, rfl, h.lt, by rw [Nat.zero_add]; exact h.cell j u hu⟩
theorem Rd.low {W W' : World} {b : Nat} {vs : List Value} (h : Rd W b vs) (hb : Below W.heap.size W W') : Rd W' b vs :=
  ⟨Nat.lt_of_lt_of_le h.lt hb.size, fun j u hu => (hb.cell (p := ⟨b, j, none⟩) h.lt).trans (h.cell j u hu)⟩
theorem Rd.alloc {W : World} {b : Nat} {vs : List Value} (h : Rd W b vs) (o : Obj) : Rd (W.alloc o) b vs := h.low (below_new W o)
theorem Rd.newF (W : World) (vs : List Value) (t : TypeId) (fz : Nat × Nat) : Rd (W.alloc (.cells vs.toArray t fz)) W.heap.size vs :=
  ⟨by simp, fun j u hu => by
    have h := World.alloc_heap_new W (.cells vs.toArray t fz)
    unfold World.cell?
    rw [h]
    simpa using hu⟩
theorem Blk.newAt {W : World} {k : Nat} {vs : List Value} {t : TypeId} (h : k = W.heap.size) : Blk (W.alloc (.cells vs.toArray t)) k vs t := by
  subst h
  exact Blk.new W vs t
end Go.Port
namespace Go.Proofs.Ytadnhjloeaddnaa
open Go.RowKit Go.Port

theorem ex_part : partS [97, 98] = 33280 := by kernel_rfl
theorem ex_worth : worthGo [97, 98] 0 ([1] ++ [2]) = 65536 := by kernel_rfl
theorem ex_eq1 : eqCuts 10 (heldI 4) = [4, 8] := by kernel_rfl
theorem ex_eq2 : eqCuts 8 (heldI 4) = [4] := by kernel_rfl
theorem ex_min : (way [97, 98] (grainN 1) (mostN 1) (nPl ([97, 98] : List UInt8).length (grainN 1) - 1)).2 = 65536 := by kernel_rfl
theorem ex_cut1 : cutsS [97, 98] (grainN 1) (mostN 1) = [1] := by kernel_rfl
theorem ex_cut2 : cutsS [97, 98] (grainN 9) (mostN 9) = [] := by kernel_rfl


abbrev AB : List Value := [.int .u8 97, .int .u8 98]

theorem cost_ab1 (A b : Nat) (W : World) (hA : Rd W A AB) (hb : Blk W b [.int .i64 1] 3) :
    Calls Try.prog 24 #[.slice (some ⟨A, 0, none⟩) 2 2, .slice (some ⟨b, 0, none⟩) 1 1] W (RetV W (.tuple #[.int .i64 65536, .int .i64 0])) := by
  have h := cost_any (some ⟨A, 0, none⟩) (some ⟨b, 0, none⟩) 2 2 1 1 [97, 98] [1] W (by omega) rfl (by omega) rfl (by omega) (by simp) (by omega) (by simp) hA.at' hb.at'
  rw [show riseB ((2 : Nat) : Int) 0 [1] = true from by kernel_rfl, if_pos rfl, if_pos rfl, show worthGo [97, 98] 0 ([1] ++ [((2 : Nat) : Int)]) = 65536 from by kernel_rfl] at h
  exact h
theorem cost_ab2 (A b : Nat) (W : World) (hA : Rd W A AB) (hb : Blk W b [.int .i64 2] 3) :
    Calls Try.prog 24 #[.slice (some ⟨A, 0, none⟩) 2 2, .slice (some ⟨b, 0, none⟩) 1 1] W (RetV W (.tuple #[.int .i64 0, .int .i64 2])) := by
  have h := cost_any (some ⟨A, 0, none⟩) (some ⟨b, 0, none⟩) 2 2 1 1 [97, 98] [2] W (by omega) rfl (by omega) rfl (by omega) (by simp) (by omega) (by simp) hA.at' hb.at'
  rw [show riseB ((2 : Nat) : Int) 0 [2] = false from by kernel_rfl, if_neg (by simp), if_neg (by simp)] at h
  exact h
theorem single_nil (W : World) : Calls Try.prog 25 #[.slice none 0 0] W (RetV W (.int .i64 0)) :=
  single_any none 0 0 [] W rfl (Nat.zero_le _) (fun j u hu => by simp at hu)
theorem single_ab (A : Nat) (W : World) (hA : Rd W A AB) : Calls Try.prog 25 #[.slice (some ⟨A, 0, none⟩) 2 2] W (RetV W (.int .i64 33280)) := by
  have h := single_any (some ⟨A, 0, none⟩) 2 2 [97, 98] W rfl (by unfold maxLen; omega) hA.at'
  rw [ex_part] at h
  exact h
theorem min_ab (A : Nat) (W : World) (hA : Rd W A AB) : Calls Try.prog 18 #[.slice (some ⟨A, 0, none⟩) 2 2, .int .i64 1] W (RetV W (.int .i64 65536)) := by
  have h := mincost_any (some ⟨A, 0, none⟩) 2 1 [97, 98] W (by simp) (by decide) (Nat.le_refl _) (by unfold maxLen; omega) hA.at'
  rw [ex_min] at h
  exact h
theorem cuts_ab1 (A : Nat) (W : World) (hA : Rd W A AB) : Calls Try.prog 13 #[.slice (some ⟨A, 0, none⟩) 2 2, .int .i64 1] W (RetSl W 1 1 [.int .i64 1]) := by
  have h := cuts_any (some ⟨A, 0, none⟩) 2 1 [97, 98] W (by simp) (by decide) (Nat.le_refl _) (by unfold maxLen; omega) hA.at'
  rw [ex_cut1] at h
  exact h
theorem cuts_ab9 (A : Nat) (W : World) (hA : Rd W A AB) : Calls Try.prog 13 #[.slice (some ⟨A, 0, none⟩) 2 2, .int .i64 9] W (RetSl W 1 0 []) := by
  have h := cuts_any (some ⟨A, 0, none⟩) 2 9 [97, 98] W (by simp) (by decide) (Nat.le_refl _) (by unfold maxLen; omega) hA.at'
  rw [ex_cut2] at h
  exact h
theorem check_ex (b n : Nat) (l : List Int) (r : Int) (W : World) (hb : Blk W b (l.map iv) 3) (hn : l.length = n) (hn2 : n ≤ 2) (hr : (if riseB (max 0 10) 0 l = true ∧ mayB (heldI 4) (max 0 10) 0 l = true then 0 else 2) = r) :
    Calls Try.prog 23 #[.int .i64 10, .int .i64 4, .slice (some ⟨b, 0, none⟩) n n] W (RetV W (.int .i64 r)) := by
  have h := check_any 10 4 (some ⟨b, 0, none⟩) n n l W (by omega) (by omega) hn (by unfold maxLen; omega) hb.at'
  rw [hr] at h
  exact h
theorem same_ex (b n c : Nat) (v : Value) (l : List Int) (W : World) (hv : Sl W 1 v n (l.map iv)) (hb : Blk W b (l.map iv) 3) (hn : l.length = n) (hn2 : n ≤ 2) :
    Calls Try.prog 20 #[v, .slice (some ⟨b, 0, none⟩) n c] W (RetV W (.bool true)) := by
  obtain ⟨a, c, rfl, _, _, _, h⟩ := hv.open
  exact same_yes a (some ⟨b, 0, none⟩) n c _ l W hn (by unfold maxLen; omega) h hb.at'

end Go.Proofs.Ytadnhjloeaddnaa
