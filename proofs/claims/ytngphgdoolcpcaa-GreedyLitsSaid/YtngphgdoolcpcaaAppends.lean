/-
  Plain laws, for every seat: a row that is appended whole.
-/
import Derived.Test.YtngphgdoolcpcaaBase
import Derived.Laws.AppendOwnNone
import Derived.WideShapes
namespace Go.Port
open Go.RowKit

/-- 'out = append(out, xs...)', xs a slice of m elements of sz cells that reads as us. -/
theorem wpList_appendsK {P : Program} {ops : Array Oper} {rest : List Oper} {o : Oper} {a : Act} {Q : Exit → Act → World → Prop} (hgd : o.guard = none) (s x : Operand) (t : TypeId)
    (ho : o.op = .call { callee := .builtin .append, args := #[s, x], argTypes := #[t, t] }) (e : TypeId) (z : Value) (sz bytes : Nat) (ht : P.underlying t = some (.slice e))
    (hi : (P.info? e).map (fun i => (i.zero, i.size, i.bytes)) = some (some z, sz, bytes)) (hz : z.cells.size = sz) (hsz : 0 < sz) (hb0 : 0 < bytes) (W : World) (base : Nat) (v : Value) (n m c : Nat) (ad : Option Addr) (xs us : List Value)
    (hus : us.length = m * sz) (hu : ∀ u ∈ us, u.oneCell' = true) (hs : a.eval s = v) (hx : a.eval x = .slice ad m c) (hmc : m ≤ c) (had : ad = none → c = 0)
    (hc : ∀ j u, us[j]? = some u → ∃ b off, ad = some ⟨b, off, none⟩ ∧ b < W.heap.size ∧ W.cell? ⟨b, off + j, none⟩ = some u)
    (hown : W.ownsRow base e sz v n xs) (hn : (n + m) * bytes ≤ 140737488355328) (hbase : base ≤ W.heap.size)
    (h : ∀ v' w', w'.ownsRow base e sz v' (n + m) (xs ++ us) → W.grownBy w' v.ownBlock → wpList P ops Q rest (a.put o.dst v') w') : wpList P ops Q (o :: rest) a W := by
  obtain ⟨i0, hi0, hz0, hz1, hz2⟩ := info_parts hi
  cases ad with
  | none =>
    have : c = 0 := had rfl
    have : m = 0 := by omega
    subst this
    have : us = [] := List.eq_nil_of_length_eq_zero (by omega)
    subst this
    have hc0 : c = 0 := had rfl
    subst hc0
    refine wpList_append_own_none hgd s x t ho base e i0 sz ht hi0 v n xs hs hown hx (h v W (by simpa using hown) (World.grownBy.refl W _))
  | some ad =>
    have hle : n + m ≤ (n + m) * bytes := Nat.le_mul_of_pos_right _ hb0
    refine wpList_append_own _ hgd s x t ho base e i0 z sz bytes ht hi0 hz0 hz1 hz2 hz hsz v n xs hs hown ad m c us hx hus (fun j u hj => ?_) hu (by simp only [maxLen]; omega) hn hbase (fun v' w' h1 h2 _ => h v' w' h1 h2)
    obtain ⟨b, off, e1, _, e2⟩ := hc j u hj
    simp only [Option.some.injEq] at e1
    subst e1
    rw [Go.WideShapes.add_plain]
    exact e2

/-- An empty slice that was just built. -/
theorem own_emptyK {w : World} {base : Nat} {e : TypeId} (sz : Nat) (hb : base ≤ w.heap.size) : (w.alloc (.cells #[] e)).ownsRow base e sz (.slice (some ⟨w.heap.size, 0, none⟩) 0 0) 0 [] :=
  ⟨by simp, .inr ⟨w.heap.size, 0, #[], rfl, hb, heap_alloc_new w _, Nat.le_refl _, by simp [maxLen], by simp, by simp⟩⟩
end Go.Port
