/-
  Plain laws for the split's theorem: any cut points that respect the maximum cost no less; what the iterator yields makes up the data.
-/
import Derived.Test.YtadnhjloeaddnaaSplitN
import Derived.Test.YtadnhjloeaddnaaSplitS
import Derived.Test.YtadnhjloeaddnaaLSplitEven
namespace Go.Port
open Go.RowKit

theorem opt_ints (bs : List UInt8) (g m : Nat) (hg : 0 < g) (hgm : g ≤ m) (cuts : List Int) (h1 : riseB bs.length 0 cuts = true) (h2 : mayB m bs.length 0 cuts = true) (h3 : ∀ c ∈ cuts, c % (g : Int) = 0) :
    (way bs g m (nPl bs.length g - 1)).2 ≤ worthGo bs 0 (cuts ++ [(bs.length : Int)]) := by
  obtain ⟨ds, rfl, hG⟩ := good_of_ints bs g m cuts 0 h1 h2 h3
  have hw := worthGo_nat bs 0 (ds ++ [bs.length])
  rw [List.map_append] at hw
  have hw' : worthGo bs 0 ((ds.map fun (c : Nat) => (c : Int)) ++ [(bs.length : Int)]) = pathCost bs 0 (ds ++ [bs.length]) := hw
  rw [hw']
  exact opt bs g m hg hgm ds hG

theorem eq_mods (size h : Int) (g : Int) (hmod : h % g = 0) : ∀ c ∈ eqCuts size h, c % g = 0 := fun c hc => by
  unfold eqCuts at hc
  split at hc
  · simp at hc
  · unfold eqL at hc
    obtain ⟨j, _, rfl⟩ := List.mem_map.1 hc
    rw [Int.mul_emod, hmod]
    simp

/-- What a check and a cost say together: where the check accepts, the cost stands and is not below W0. -/
theorem verdict {r m : Bool} {W0 X : Int} (h : r = true → m = true → W0 ≤ X) :
    ((if r = true ∧ m = true then (0 : Int) else 2) == 0 && (((if r = true then (0 : Int) else 2) != 0) || decide ((if r = true then X else 0) < W0))) = false := by
  cases r <;> cases m <;> simp_all

/-- Parts of data that rise begin where the parts before end, and are not empty. -/
theorem parts_at (bs : List UInt8) : ∀ (cs : List Int) (last : Nat), riseB bs.length last cs = true → last < bs.length → ∀ (pre : List (Int × List UInt8)) (T : Int) (b : List UInt8) (post : List (Int × List UInt8)),
    partsGo bs last (cs ++ [(bs.length : Int)]) = pre ++ (T, b) :: post → T = last + ((pre.map fun p => p.2).flatten.length : Nat) ∧ b ≠ []
  | [], last, _, hl, pre, T, b, post, h => by
    simp only [List.nil_append, partsGo] at h
    cases pre with
    | nil =>
      simp only [List.nil_append, List.cons.injEq, Prod.mk.injEq] at h
      obtain ⟨⟨rfl, rfl⟩, _⟩ := h
      refine ⟨by simp, fun e => ?_⟩
      have := seg_length bs last bs.length (Nat.le_refl _)
      simp only [Int.toNat_natCast] at e
      rw [e] at this
      simp at this
      omega
    | cons p r => simp at h
  | c :: cs, last, hr, hl, pre, T, b, post, h => by
    rw [riseB] at hr
    simp only [Bool.and_eq_true, decide_eq_true_eq] at hr
    obtain ⟨C, rfl⟩ : ∃ C : Nat, c = (C : Int) := ⟨c.toNat, by omega⟩
    simp only [List.cons_append, partsGo, Int.toNat_natCast] at h
    have hs := seg_length bs last C (by omega)
    cases pre with
    | nil =>
      simp only [List.nil_append, List.cons.injEq, Prod.mk.injEq] at h
      obtain ⟨⟨rfl, rfl⟩, _⟩ := h
      refine ⟨by simp, fun e => ?_⟩
      rw [e] at hs
      simp at hs
      omega
    | cons p r =>
      simp only [List.cons_append, List.cons.injEq] at h
      obtain ⟨rfl, h⟩ := h
      obtain ⟨h1, h2⟩ := parts_at bs cs C hr.2 (by omega) r T b post h
      refine ⟨?_, h2⟩
      simp only [List.map_cons, List.flatten_cons, List.length_append, hs]
      omega
end Go.Port
