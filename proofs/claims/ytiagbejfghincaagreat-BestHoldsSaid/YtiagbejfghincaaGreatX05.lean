/-
  Plain laws of layer 32 (price): what a symbol pcosts. No program in sight. And: a row that is lengthened by zeros.
-/
import Derived.Test.YtiagbejfghincaaGreatX04
import Derived.Test.YtiagbejfghincaaGreatX02
import Derived.Lib.AppendZerosOnto
namespace Go.Port
open Go.RowKit
/-- How many symbols the histogram k has. -/
def symN (k : Nat) : Nat := if k = 0 then 256 else if k = 2 then 28 else 44
/-- The extra bits of a symbol. -/
def sbits (k s : Nat) : Nat := if k = 0 then 0 else ebits (decide (k = 2)) s
/-- A histogram of the kind k. -/
def HistOk (k : Nat) (c : List Int) : Prop := c.length ≤ symN k ∧ ∀ x ∈ c, Cnt x
instance (x : Int) : Decidable (Cnt x) := by unfold Cnt; exact inferInstance
instance (k : Nat) (c : List Int) : Decidable (HistOk k c) := by unfold HistOk; exact inferInstance
/-- What a symbol pcosts. -/
def psym (k : Nat) (c : List Int) (s : Nat) : Int := lg (c.sum + symN k) - lg (c.getD s 0 + 1)
/-- .. and its extra bits. -/
def pcost (k : Nat) (c : List Int) (s : Nat) : Int := psym k c s + 256 * (sbits k s : Nat)
def pcosts (k : Nat) (c : List Int) : List Int := (List.range (symN k)).map (pcost k c)
theorem pcosts_at {k s : Nat} (c : List Int) (h : s < symN k) : (pcosts k c)[s]? = some (pcost k c s) := by
  unfold pcosts
  rw [List.getElem?_map, List.getElem?_range h]
  rfl
theorem symN_le (k : Nat) : symN k ≤ 256 ∧ 28 ≤ symN k := by unfold symN; split <;> (try split) <;> omega
theorem sum_cnt : ∀ {l : List Int}, (∀ x ∈ l, Cnt x) → 0 ≤ l.sum ∧ l.sum ≤ l.length * 2147483648 := by
  intro l
  induction l with
  | nil => intro _; simp
  | cons y r ih =>
    intro h
    have h1 := ih (fun x hx => h x (by simp [hx]))
    have h2 := h y (by simp)
    unfold Cnt at h2
    rw [List.sum_cons, List.length_cons]
    omega
theorem sum_hist {k : Nat} {c : List Int} (h : HistOk k c) : 0 ≤ c.sum ∧ c.sum ≤ 549755813888 := by
  have h1 := sum_cnt h.2
  have h2 := h.1
  have h3 := (symN_le k).1
  omega
theorem getD_cnt {c : List Int} (h : ∀ x ∈ c, Cnt x) (s : Nat) : Cnt (c.getD s 0) := by
  rw [List.getD_eq_getElem?_getD]
  cases e : c[s]? with
  | none => exact ⟨by simp, by simp⟩
  | some x => exact h x (List.mem_of_getElem? e)
theorem sbits_lt (k s : Nat) (h : s < symN k) : sbits k s < 44 := by
  unfold sbits
  split
  · omega
  · unfold symN at h
    have e : ∀ (off : Bool) (c : Nat), c < ecodes off → ebits off c < 44 := by decide
    by_cases h2 : k = 2
    · subst h2; exact e true s (by simpa [ecodes] using h)
    · have : decide (k = 2) = false := by simp [h2]
      rw [this]
      refine e false s ?_
      rename_i h0
      rw [if_neg h0, if_neg h2] at h
      simpa [ecodes] using h
end Go.Port
namespace Go.Port
open Go.RowKit
variable {P : Program} (w : World)
theorem zeroCells_one (x : Int) (q : IntKind) (n : Nat) : Builtin.zeroCells (Value.int q x).cells n = (List.replicate n (Value.int q x)).toArray := by
  apply Array.ext'
  simp [Builtin.zeroCells, Value.cells]
  apply List.ext_getElem?
  intro j
  by_cases h : j < n
  · simp [h, Nat.mod_one]
  · simp [h]
/-- 'append(v, make([]T, m)...)', v a row of the call's own, T an integer. -/
theorem run_append_own_zeros (base : Nat) (t tn ty e : TypeId) (i : TypeInfo) (q kq kn : IntKind) (ht : P.underlying t = some (.slice e)) (htn : P.underlying tn = some (.int kn)) (hi : P.info? e = some i) (hz : i.zero = some (.int q 0))
    (hsize : i.size = 1) (hby : i.bytes ≤ 8) (v : Value) (n : Nat) (xs : List Value) (hown : w.ownsRow base e 1 v n xs) (m : Nat) (hsm : n + m ≤ 1000000) (hbase : base ≤ w.heap.size) :
    ∃ v' w', (Builtin.append_ #[t, tn] ty #[v, .int kq m]).run P w = .ok v' w' ∧ w'.ownsRow base e 1 v' (n + m) (xs ++ List.replicate m (.int q 0)) ∧ w.grownBy w' v.ownBlock := by
  have hbm : ∀ k, k ≤ 1000000 → k * i.bytes ≤ 8000000 := fun k hk => Nat.le_trans (Nat.mul_le_mul hk hby) (by decide)
  have hw : IntKind.i64.wrap (m : Int) = m := by rw [IntKind.wrap_i64]; omega
  have hneg : ¬ ((m : Int) < 0) := by omega
  have h48i : ¬ (281474976710656 < (m : Int) * (i.bytes : Int)) := by
    have := hbm m (by omega)
    rw [← Int.natCast_mul]
    omega
  have hlen : (xs ++ List.replicate m (Value.int q 0)).length = (n + m) * 1 := by rw [List.length_append, hown.1, List.length_replicate]; omega
  have hxl : xs.length = n := by have := hown.1; omega
  have grown : ∀ (old : Nat), old < n + m → ∀ (row : Option Nat),
      (w.drew.alloc (.cells (xs.toArray ++ Builtin.zeroCells (Value.int q 0).cells m ++ Builtin.zeroCells (Value.int q 0).cells (grownCap w (n + m) old e - (n + m))) e)).ownsRow base e 1
        (.slice (some ⟨w.heap.size, 0, none⟩) (n + m) (grownCap w (n + m) old e)) (n + m) (xs ++ List.replicate m (.int q 0)) ∧
      w.grownBy (w.drew.alloc (.cells (xs.toArray ++ Builtin.zeroCells (Value.int q 0).cells m ++ Builtin.zeroCells (Value.int q 0).cells (grownCap w (n + m) old e - (n + m))) e)) row := by
    intro old ho row
    have hge := grownCap_ge w (n + m) old e
    have hcm : grownCap w (n + m) old e ≤ maxLen := grownCap_le_maxLen w (n + m) old e (by simp only [maxLen]; omega)
    refine ⟨⟨hlen, .inr ⟨w.heap.size, _, _, rfl, hbase, heap_alloc_new w.drew _, hge, hcm, ?_, ?_⟩⟩, ⟨rfl, rfl, rfl, by simp, fun k hk _ => heap_alloc_old w.drew _ hk⟩⟩
    · rw [zeroCells_one, zeroCells_one]
      simp only [Array.size_append, List.size_toArray, List.length_replicate, hxl]
      omega
    · rw [zeroCells_one, zeroCells_one]
      simp only [Array.toList_append, List.append_assoc]
      rw [← List.append_assoc, ← hlen]
      exact List.take_left
  rcases hown.2 with ⟨rfl, rfl⟩ | ⟨g, cap, cur, rfl, hbg, hg, hnc, hcm, hcs, htake⟩
  · have hx : xs = [] := List.eq_nil_of_length_eq_zero hxl
    subst hx
    by_cases hm : m = 0
    · subst hm
      refine ⟨.slice none 0 0, w, ?_, World.ownsRow_nil w base e 1, ⟨rfl, rfl, rfl, Nat.le_refl _, fun _ _ _ => rfl⟩⟩
      simp [Builtin.append_, run_underlying ht, run_underlying htn, sizeOf, typeInfo, hi, asInt, asIntOf]
      simp [IntKind.wrap_i64]
    · have hr := Lib.run_append_nil_zeros (P := P) w t tn ty e i (.int q 0) kq kn ht htn hi hz m (by omega) (by omega) (by omega) (by have := hbm m (by omega); omega)
      have hgr := grown 0 (by omega) (Value.ownBlock (.slice none 0 0))
      simp only [Nat.zero_add, List.nil_append, Array.empty_append] at hgr ⊢
      exact ⟨_, _, hr, hgr.1, hgr.2⟩
  · by_cases hroom : n + m ≤ cap
    · have hfit : 0 + n + (List.replicate m (Value.int q 0)).length ≤ cur.size := by rw [List.length_replicate, hcs]; omega
      have hst := run_storeCells_at P g n e (List.replicate m (Value.int q 0)) 0 cur w hg (by simpa using hfit) (fun u hu => by rw [(List.mem_replicate.1 hu).2]; rfl)
      simp only [Nat.add_zero] at hst
      by_cases hm : m = 0
      · subst hm
        refine ⟨.slice (some ⟨g, 0, none⟩) n cap, w, ?_, ?_, World.grownBy.refl w _⟩
        · simp [Builtin.append_, run_underlying ht, run_underlying htn, sizeOf, typeInfo, hi, hsize, asInt, asIntOf, Addr.add_lit]
          simp [IntKind.wrap_i64, hnc, storeCells]
        · simpa using hown
      · refine ⟨.slice (some ⟨g, 0, none⟩) (n + m) cap, w.setRow g (cur.toList.take n ++ List.replicate m (Value.int q 0) ++ cur.toList.drop (n + (List.replicate m (Value.int q 0)).length)).toArray, ?_,
          ⟨hlen, .inr ⟨g, cap, _, rfl, hbg, setRow_heap w g cur _ e _ hg, hroom, hcm, ?_, ?_⟩⟩, ⟨rfl, rfl, rfl, by simp, fun k _ hk => setRow_other w g k _ (fun e => hk (by simp [Value.ownBlock, e]))⟩⟩
        · simp [Builtin.append_, run_underlying ht, run_underlying htn, sizeOf, typeInfo, zeroValue, hi, hz, hsize, asInt, asIntOf, hw, hneg, h48i, hroom, hm, Addr.add_lit, zeroCells_one, hst]
        · simp only [List.size_toArray, List.length_append, List.length_take, List.length_drop, Array.length_toList, List.length_replicate, hcs]
          omega
        · have h2 : cur.toList.take n = xs := by rw [← htake, Nat.mul_one]
          rw [h2, ← hlen]
          exact List.take_left
    · have holds : ∀ j u, xs[j]? = some u → w.cell? ((⟨g, 0, none⟩ : Addr).add j) = some u := hown.cells (g := g) rfl
      have hm : 0 < m := by omega
      have hold : (Builtin.firstCells i.size n (.slice (some ⟨g, 0, none⟩) n cap)).run P w.drew = .ok xs.toArray w.drew := by
        have := run_firstCells_some (P := P) w.drew i.size n ⟨g, 0, none⟩ n cap xs (by rw [hsize]; omega) (fun j u hu => holds j u hu)
        exact this
      have hfit : Builtin.nextslicecap (n + m) cap * i.bytes ≤ 281474976710656 := growslice_fits (by omega) (by have := hbm (n + m) hsm; omega)
      have hr := Lib.run_append_grow_zeros (P := P) w t tn ty e i (.int q 0) kq kn ht htn hi hz (some ⟨g, 0, none⟩) n cap xs hold m hm (by omega) (by omega) (by omega) (by have := hbm m (by omega); omega) hfit
      have hgr := grown cap (by omega) (Value.ownBlock (.slice (some ⟨g, 0, none⟩) n cap))
      exact ⟨_, _, hr, hgr.1, hgr.2⟩
end Go.Port
