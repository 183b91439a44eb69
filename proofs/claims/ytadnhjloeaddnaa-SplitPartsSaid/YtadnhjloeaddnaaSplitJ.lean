/-
  The walks of the split, tenth part: a copy of a slice.
-/
import Derived.Test.YtadnhjloeaddnaaSplitI
import Derived.Laws.AppendOwnNone
namespace Go.Port
open Go.RowKit

/-- 'out = append(out, xs...)', xs a slice that reads as us. -/
theorem wpList_appends {P : Program} {ops : Array Oper} {rest : List Oper} {o : Oper} {a : Act} {Q : Exit → Act → World → Prop} (hgd : o.guard = none) (s x : Operand) (t : TypeId)
    (ho : o.op = .call { callee := .builtin .append, args := #[s, x], argTypes := #[t, t] }) (e : TypeId) (z : Value) (bytes : Nat) (ht : P.underlying t = some (.slice e))
    (hi : (P.info? e).map (fun i => (i.zero, i.size, i.bytes)) = some (some z, 1, bytes)) (hz : z.cells.size = 1) (hb0 : 0 < bytes) (W : World) (base : Nat) (v : Value) (n m c : Nat) (ad : Option Addr) (xs us : List Value)
    (hus : us.length = m) (hu : ∀ u ∈ us, u.oneCell' = true) (hs : a.eval s = v) (hx : a.eval x = .slice ad m c) (hmc : m ≤ c) (had : ad = none → c = 0)
    (hc : ∀ j u, us[j]? = some u → ∃ b off, ad = some ⟨b, off, none⟩ ∧ b < W.heap.size ∧ W.cell? ⟨b, off + j, none⟩ = some u)
    (hown : W.ownsRow base e 1 v n xs) (hn : (n + m) * bytes ≤ 140737488355328) (hbase : base ≤ W.heap.size)
    (h : ∀ v' w', w'.ownsRow base e 1 v' (n + m) (xs ++ us) → W.grownBy w' v.ownBlock → wpList P ops Q rest (a.put o.dst v') w') : wpList P ops Q (o :: rest) a W := by
  obtain ⟨i0, hi0, hz0, hz1, hz2⟩ := info_parts hi
  cases ad with
  | none =>
    have : c = 0 := had rfl
    have : m = 0 := by omega
    subst this
    have : us = [] := List.eq_nil_of_length_eq_zero hus
    subst this
    have hc0 : c = 0 := had rfl
    subst hc0
    refine wpList_append_own_none hgd s x t ho base e i0 1 ht hi0 v n xs hs hown hx (h v W (by simpa using hown) (World.grownBy.refl W _))
  | some ad =>
    have hle : n + m ≤ (n + m) * bytes := Nat.le_mul_of_pos_right _ hb0
    refine wpList_append_own _ hgd s x t ho base e i0 z 1 bytes ht hi0 hz0 hz1 hz2 hz (by decide) v n xs hs hown ad m c us hx (by omega) (fun j u hj => ?_) hu (by simp only [maxLen]; omega) hn hbase (fun v' w' h1 h2 _ => h v' w' h1 h2)
    obtain ⟨b, off, e1, _, e2⟩ := hc j u hj
    simp only [Option.some.injEq] at e1
    subst e1
    rw [Addr.add_mid]
    exact e2

/-- An empty slice that was just built. -/
theorem own_empty {w : World} {base : Nat} {e : TypeId} (hb : base ≤ w.heap.size) : (w.alloc (.cells #[] e)).ownsRow base e 1 (.slice (some ⟨w.heap.size, 0, none⟩) 0 0) 0 [] :=
  ⟨rfl, .inr ⟨w.heap.size, 0, #[], rfl, hb, heap_alloc_new w _, Nat.le_refl _, by simp [maxLen], rfl, rfl⟩⟩
end Go.Port
namespace Go.Proofs.Ytadnhjloeaddnaa
open Go.RowKit Go.Port

theorem Try.info_byte : (Try.prog.info? 5).map (fun i => (i.zero, i.size, i.bytes)) = some (some (.int .u8 0), 1, 1) := by kernel_rfl

set_option maxRecDepth 100000 in
set_option maxHeartbeats 400000 in
theorem clone_own (a : Option Addr) (n c : Nat) (bs : List UInt8) (w : World) (hn : bs.length = n) (hnb : n ≤ 200000) (hnc : n ≤ c) (hac : a = none → c = 0)
    (hc : ∀ j u, (bs.map bv)[j]? = some u → ∃ b off, a = some ⟨b, off, none⟩ ∧ b < w.heap.size ∧ w.cell? ⟨b, off + j, none⟩ = some u) :
    Calls Try.prog 42 #[.slice a n c] w fun e w' => ∃ v, e = .returned v ∧ w'.ownsRow w.heap.size 5 1 v n (bs.map bv) ∧ Below w.heap.size w w' := by
  cases a with
  | none =>
    have h0 : c = 0 := hac rfl
    have h1 : n = 0 := by omega
    subst h0 h1
    have : bs = [] := List.eq_nil_of_length_eq_zero hn
    subst this
    have heq := fun (W : World) => Lib.run_eql_slice_nil (P := Try.prog) W 25 5 none 0 0 0 0 Try.underlying25
    go_enter Try.func42, Try.ntmps42
    go_wp2
    go_ret
    exact ⟨_, rfl, World.ownsRow_nil _ _ _ _, Below.refl _ _⟩
  | some ad =>
    have HC := hid (fun j u hu => by
      obtain ⟨b, off, h1, h2, h3⟩ := hc j u hu
      exact (⟨b, off, h1, Nat.lt_of_lt_of_le h2 (below_new w _).size, ((below_new w (.cells #[] 5)).cell (p := ⟨b, off + j, none⟩) h2).trans h3⟩ : ∃ b off, some ad = some ⟨b, off, none⟩ ∧ b < (w.alloc (.cells #[] 5)).heap.size ∧ (w.alloc (.cells #[] 5)).cell? ⟨b, off + j, none⟩ = some u))
    clear hc
    have heq := fun (W : World) => Lib.run_eql_slice_nil (P := Try.prog) W 25 5 (some ad) n c 0 0 Try.underlying25
    go_enter Try.func42, Try.ntmps42
    go_wp2_with (at_builtin; refine Hid.out ?_)
    refine hid ?_
    refine wpList_appends rfl _ _ 25 rfl 5 _ 1 Try.underlying25 Try.info_byte rfl (by decide) _ w.heap.size _ 0 n c (some ad) [] (bs.map bv) (by simpa using hn) ?hu rfl rfl hnc (fun h => by cases h) (by exact HC.out) (by exact own_empty (Nat.le_refl _)) ?hn ?hb ?hk
    case hu =>
      intro u hu
      obtain ⟨x, _, rfl⟩ := List.mem_map.1 hu
      rfl
    case hn => omega
    case hb => simp
    case hk =>
      intro v' w' hown hg
      rw [List.nil_append, Nat.zero_add] at hown
      have HSl := hid hown
      have hB := (below_new w (.cells #[] 5)).grown hg (by simp) (fun k hk => ((own_empty (e := 5) (Nat.le_refl w.heap.size)).lt k hk).1)
      go_wp2
      go_ret
      exact ⟨_, rfl, HSl.out, hB⟩

theorem clone_any (a : Option Addr) (n c : Nat) (bs : List UInt8) (w : World) (hn : bs.length = n) (hnb : n ≤ 200000) (hnc : n ≤ c) (hac : a = none → c = 0)
    (hc : ∀ j u, (bs.map bv)[j]? = some u → ∃ b off, a = some ⟨b, off, none⟩ ∧ b < w.heap.size ∧ w.cell? ⟨b, off + j, none⟩ = some u) :
    Calls Try.prog 42 #[.slice a n c] w (RetSl w 1 n (bs.map bv)) :=
  (clone_own a n c bs w hn hnb hnc hac hc).mono fun _ _ ⟨v, h1, h2, h3⟩ => ⟨v, h1, Sl.of_owns h2, h3⟩
end Go.Proofs.Ytadnhjloeaddnaa
