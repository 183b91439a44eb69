/-
  What the split's theorem and the law of the iterator lean on.
-/
import Derived.Test.YtadnhjloeaddnaaSText2
import Derived.Test.YtadnhjloeaddnaaStr
import Derived.Test.YtadnhjloeaddnaaSplitT
import Derived.Deep.DeepCutAuto
namespace Go.Port
open Go.RowKit

/-- The law's own cells: its result, false so far; what lay lies. -/
structure StH (w W : World) (t4 : TypeId) : Prop where
  res : Blk W (w.heap.size + 1) [.bool false] t4
  below : Below w.heap.size w W
theorem StH.low {w W W' : World} {t4 : TypeId} (h : StH w W t4) (hb : Below W.heap.size W W') : StH w W' t4 := ⟨h.res.below hb h.res.lt, h.below.trans (hb.mono h.below.size)⟩

theorem prefix_fine {bs : List UInt8} {cuts : List Int} {pre : List PEl} {x : PEl} (hp : ∃ rest, dataP (pre ++ [x]) ++ rest = fullP bs cuts) :
    x.1 = ((((dataP pre).map fun p => p.2).flatten.length : Nat) : Int) ∧ x.2.2 ≠ [] ∧ (((dataP pre).map fun p => p.2).flatten ++ x.2.2).length ≤ bs.length := by
  obtain ⟨rest, hr⟩ := hp
  have e : dataP (pre ++ [x]) = dataP pre ++ [(x.1, x.2.2)] := by unfold dataP; simp
  rw [e] at hr
  unfold fullP at hr
  split at hr
  · rename_i h2
    have hj : ((partsGo bs 0 (cuts ++ [(bs.length : Int)])).map fun p => p.2).flatten = bs := by
      have := parts_join bs 0 cuts h2.1 (Nat.zero_le _)
      simpa using this
    rw [← hr] at hj
    rw [List.append_assoc] at hr
    have := parts_at bs cuts 0 h2.1 (by omega) (dataP pre) x.1 x.2.2 rest hr.symm
    refine ⟨by simpa using this.1, this.2, ?_⟩
    have hl := congrArg List.length hj
    simp only [List.map_append, List.flatten_append, List.length_append, List.map_cons, List.map_nil, List.flatten_cons, List.flatten_nil, List.length_nil] at hl
    rw [List.length_append]
    omega
  · simp at hr

def allP (xs : List PEl) : List UInt8 := ((dataP xs).map fun p => p.2).flatten
theorem allP_snoc (xs : List PEl) (x : PEl) : allP (xs ++ [x]) = allP xs ++ x.2.2 := by
  unfold allP dataP
  simp
theorem allP_full {bs : List UInt8} {cuts : List Int} {xs : List PEl} (h : dataP xs = fullP bs cuts) (hr : riseB bs.length 0 cuts = true) : allP xs = bs := by
  unfold allP
  rw [h]
  unfold fullP
  by_cases h0 : bs.length = 0
  · rw [if_neg (fun h => h.2 h0)]
    have : bs = [] := List.eq_nil_of_length_eq_zero h0
    subst this
    rfl
  · rw [if_pos ⟨hr, h0⟩]
    have := parts_join bs 0 cuts hr (Nat.zero_le _)
    simpa using this

/-- What holds between two rounds of a loop that gathers the parts in a cell made at w's end. -/
def IH (w : World) (t25 t5 : TypeId) (xs : List PEl) (W : World) : Prop := ∃ va, Blk W w.heap.size [va] t25 ∧ W.ownsRow (w.heap.size + 1) t5 1 va (allP xs).length ((allP xs).map bv) ∧ Below w.heap.size w W

theorem own_stays {W W' : World} {B sz n : Nat} {e : TypeId} {v : Value} {xs : List Value} {row : Option Nat} (h : W.ownsRow B e sz v n xs) (hg : W.grownBy W' row) (hr : ∀ r, row = some r → ∃ o : Obj, W.heap[r]? = some o ∧ o.isCells = false) : W'.ownsRow B e sz v n xs := by
  refine h.kept hg ?_
  rcases h.2 with ⟨rfl, _⟩ | ⟨g, cap, cur, rfl, _, hh, _⟩
  · exact .inl rfl
  · right
    intro e'
    obtain ⟨o, ho, hc⟩ := hr g e'.symm
    rw [hh] at ho
    cases ho
    cases hc
theorem own_kind {w : World} {B sz n : Nat} {e : TypeId} {v : Value} {xs : List Value} (h : w.ownsRow B e sz v n xs) (g : Nat) (hg : v.ownBlock = some g) : ∃ c fz, w.heap[g]? = some (.cells c e fz) := by
  rcases h.2 with ⟨rfl, _⟩ | ⟨g', cap, cur, rfl, _, hh, _⟩
  · simp [Value.ownBlock] at hg
  · simp only [Value.ownBlock, Option.some.injEq] at hg
    subst hg
    exact ⟨_, _, hh⟩
theorem IH_stays (w : World) (t25 t5 : TypeId) {B : Nat} (hB : w.heap.size + 1 ≤ B) : Stays B (IH w t25 t5) := fun _ _ _ _ ⟨va, h1, h2, h3⟩ hg hr =>
  ⟨va, h1.grown hg (fun e => by have := (hr _ e.symm).1; omega), own_stays h2 hg (fun r e => (hr r e).2), h3.grown hg h3.size (fun k hk => by have := (hr _ hk).1; omega)⟩

theorem step_appends {P : Program} {ops : Array Oper} {o : Oper} {a : Act} {W : World} {K : Act → World → Prop} {Q : Exit → Act → World → Prop} {E : Prop}
    (hg : o.guard = none) (s x : Operand) (t : TypeId) (ho : o.op = .call { callee := .builtin .append, args := #[s, x], argTypes := #[t, t] }) (e : TypeId) (z : Value) (bytes : Nat) (ht : P.underlying t = some (.slice e))
    (hi : (P.info? e).map (fun i => (i.zero, i.size, i.bytes)) = some (some z, 1, bytes)) (hz : z.cells.size = 1) (base : Nat) (v : Value) (n m c : Nat) (ad : Addr) (xs us : List Value)
    (hus : us.length = m) (hu : ∀ u ∈ us, u.oneCell' = true) (hs : a.eval s = v) (hx : a.eval x = .slice (some ad) m c) (hc : ∀ j u, us[j]? = some u → W.cell? (ad.add j) = some u)
    (hown : W.ownsRow base e 1 v n xs) (h63 : n + m ≤ maxLen) (hn : (n + m) * bytes ≤ 140737488355328) (hbase : base ≤ W.heap.size)
    (h : ∀ v' w', w'.ownsRow base e 1 v' (n + m) (xs ++ us) → W.grownBy w' v.ownBlock → K (a.put o.dst v') w') :
    if Region.wanted o (yielded ops a.tmps) = true then Oper.wp P o a W K Q else E := by
  have hw : Region.wanted o (yielded ops a.tmps) = true := by simp [Region.wanted, hg]
  rw [if_pos hw]
  obtain ⟨i0, hi0, hz0, hz1, hz2⟩ := info_parts hi
  exact wp_append_own W s x t ho base e i0 z 1 bytes ht hi0 hz0 hz1 hz2 hz (by decide) v n xs hs hown ad m c us hx (by omega) hc hu h63 hn hbase (fun v' w' h1 h2 _ => h v' w' h1 h2)
end Go.Port
namespace Go.Proofs.Ytadnhjloeaddnaa
open Go.RowKit Go.Port

/-- Two contracts that speak of one list of cut points, their answers as letters; what the answers say together. -/
theorem both_any (bs : List UInt8) (ab : Option Addr) (cb : Nat) (most : Int) (W0 : Int) (w1 : World) (hN : bs.length ≤ 200000) (hnb : bs.length ≤ cb) (hab : ab = none → cb = 0)
    (hb : ∀ W, Below w1.heap.size w1 W → ∀ j u, (bs.map bv)[j]? = some u → ∃ b off, ab = some ⟨b, off, none⟩ ∧ b < W.heap.size ∧ W.cell? ⟨b, off + j, none⟩ = some u) (cuts : List Int) (hcl : cuts.length ≤ 9000)
    (hW : riseB bs.length 0 cuts = true → mayB (heldI most) bs.length 0 cuts = true → W0 ≤ worthGo bs 0 (cuts ++ [(bs.length : Int)])) :
    ∃ M F C : Int, (∀ (W : World) (a2 : Option Addr) (n2 c2 : Nat), Below w1.heap.size w1 W → cuts.length = n2 → n2 ≤ c2 → (a2 = none → c2 = 0) → (∀ j u, (cuts.map iv)[j]? = some u → ∃ b off, a2 = some ⟨b, off, none⟩ ∧ b < W.heap.size ∧ W.cell? ⟨b, off + j, none⟩ = some u) →
        Calls Try.prog 24 #[.slice ab bs.length cb, .slice a2 n2 c2] W (RetV W (.tuple #[.int .i64 M, .int .i64 F]))) ∧
      (∀ (W : World) (a2 : Option Addr) (n2 c2 : Nat), cuts.length = n2 → (∀ j u, (cuts.map iv)[j]? = some u → ∃ b off, a2 = some ⟨b, off, none⟩ ∧ b < W.heap.size ∧ W.cell? ⟨b, off + j, none⟩ = some u) →
        Calls Try.prog 23 #[.int .i64 bs.length, .int .i64 most, .slice a2 n2 c2] W (RetV W (.int .i64 C))) ∧
      ((C = 0 ∧ F = 0 ∧ ¬ M < W0) ∨ C ≠ 0) := by
  refine ⟨if riseB bs.length 0 cuts = true then worthGo bs 0 (cuts ++ [(bs.length : Int)]) else 0, if riseB bs.length 0 cuts = true then 0 else 2, if riseB bs.length 0 cuts = true ∧ mayB (heldI most) bs.length 0 cuts = true then 0 else 2, ?_, ?_, ?_⟩
  · intro W a2 n2 c2 hWb h1 h2 h3 h4
    exact cost_any ab a2 bs.length cb n2 c2 bs cuts W (by omega) rfl hN h1 hnb hab h2 h3 (hb W hWb) h4
  · intro W a2 n2 c2 h1 h4
    have h := check_any (bs.length : Int) most a2 n2 c2 cuts W (by omega) (by omega) h1 (by unfold maxLen; omega) h4
    rw [show max 0 (bs.length : Int) = (bs.length : Int) from by omega] at h
    exact h
  · cases hr : riseB bs.length 0 cuts with
    | false => right; simp
    | true =>
      cases hm : mayB (heldI most) bs.length 0 cuts with
      | false => right; simp
      | true =>
        left
        have := hW hr hm
        refine ⟨by simp, by simp, ?_⟩
        rw [if_pos rfl]
        omega

theorem fn_nil (f : Nat) (lb : Array Value) (w : World) : (binOp .eql 53 (.func (.func f) #[] lb) .nilFunc).run Try.prog w = .ok (.bool false) w := by kernel_rfl
end Go.Proofs.Ytadnhjloeaddnaa
