/-
  The walks of layer 29, fourth part: the candidates are gathered.
-/
import Derived.Test.YtngphgdoolcpcaaChD
import Derived.Sort.QuietIn
namespace Go.Port
open Go.RowKit
theorem candGo_cons (own : Nat) (W D : Int) (p : Nat) (r : List Nat) : candGo own W D (p :: r) = if 0 < D ∧ ((own : Int) - (p : Int)) ≤ W then p :: candGo own W (D - 1) r else [] := rfl
theorem candGo_append (own : Nat) (W : Int) (rest : List Nat) : ∀ (pre : List Nat) (D : Int), candGo own W D pre = pre → candGo own W D (pre ++ rest) = pre ++ candGo own W (D - pre.length) rest := by
  intro pre
  induction pre with
  | nil => intro D _; simp
  | cons p r ih =>
    intro D h
    rw [candGo_cons] at h
    split at h
    · rename_i hc
      simp only [List.cons.injEq, true_and] at h
      rw [List.cons_append, candGo_cons, if_pos hc, ih _ h, List.cons_append, show D - ((p :: r).length : Int) = D - 1 - (r.length : Int) from by simp only [List.length_cons]; omega]
    · cases h
/-- All so far were taken. -/
def Took (own : Nat) (W D : Int) (pre : List Nat) : Prop := candGo own W D pre = pre
theorem Took.nil (own : Nat) (W D : Int) : Took own W D [] := rfl
theorem Took.next {own : Nat} {W D : Int} {pre : List Nat} (h : Took own W D pre) (x : Nat) (h1 : (pre.length : Int) < D) (h2 : (own : Int) - x ≤ W) : Took own W D (pre ++ [x]) := by
  unfold Took
  rw [candGo_append own W [x] pre D h, candGo_cons, if_pos ⟨by omega, h2⟩]
  rfl
theorem Took.stop {own : Nat} {W D : Int} {pre : List Nat} (h : Took own W D pre) (x : Nat) (rest : List Nat) (hn : ¬ ((pre.length : Int) < D ∧ (own : Int) - x ≤ W)) : candGo own W D (pre ++ [x] ++ rest) = pre := by
  rw [List.append_assoc, candGo_append own W _ pre D h]
  simp only [List.cons_append, List.nil_append]
  rw [candGo_cons, if_neg (fun hc => hn ⟨by omega, hc.2⟩), List.append_nil]
theorem Took.len {own : Nat} {W D : Int} {pre : List Nat} (h : Took own W D pre) : pre = candGo own W D pre := h.symm
theorem candS_chain (B : List UInt8) (own : Nat) (W D : Int) : candS B own W D = candGo own W D (chainS B (own : Int)) := by
  unfold candS chainS
  by_cases h : own + 3 ≤ B.length
  · rw [if_pos h, if_pos (by omega), Int.toNat_natCast]
  · rw [if_neg h, if_neg (by omega)]
    rfl
theorem stays_own {β : Type} (B base sz : Nat) (e : TypeId) (v : Value) (n : Nat) (xs : List Value) : StaysC B (fun (_ : β) W => W.ownsRow base e sz v n xs) := fun _ W _ row h hg hr => by
  refine h.kept hg ?_
  obtain ⟨h1, h2⟩ := h
  rcases h2 with ⟨rfl, _⟩ | ⟨g, cap, cur, rfl, h3, h4, h5⟩
  · exact .inl rfl
  · refine .inr (fun e' => ?_)
    obtain ⟨_, o, ho, hc⟩ := hr g e'.symm
    rw [h4] at ho
    cases ho
    cases hc
theorem wpListIn_append1 {F : Fence} {nF : Nat} {P : Program} {ops : Array Oper} {rest : List Oper} {o : Oper} {a : Act} {Q : Exit → Act → World → Prop} (hgd : o.guard = none) (s x : Operand) (t : TypeId)
    (ho : o.op = .call { callee := .builtin .append, args := #[s, x], argTypes := #[t, t] }) (e : TypeId) (z : Value) (sz bytes : Nat) (ht : P.underlying t = some (.slice e))
    (hi : (P.info? e).map (fun i => (i.zero, i.size, i.bytes)) = some (some z, sz, bytes)) (hz : z.cells.size = sz) (hsz : 0 < sz) (hb0 : 0 < bytes) (W : World) (base : Nat) (v : Value) (n : Nat) (xs us : List Value)
    (hus : us.length = sz) (hu : ∀ u ∈ us, u.oneCell' = true) (hs : a.eval s = v) (hx : a.eval x = .slice (some ⟨W.heap.size, 0, none⟩) 1 1) (hown : W.ownsRow base e sz v n xs) (hn : (n + 1) * bytes ≤ 140737488355328) (hbase : base ≤ W.heap.size)
    (h : ∀ v' w', w'.ownsRow base e sz v' (n + 1) (xs ++ us) → W.grownBy w' v.ownBlock → wpListIn F nF P ops Q rest (a.put o.dst v') w') : wpListIn F nF P ops Q (o :: rest) a (W.alloc (.cells us.toArray e)) := by
  obtain ⟨i0, hi0, hz0, hz1, hz2⟩ := info_parts hi
  have hle : n + 1 ≤ (n + 1) * bytes := Nat.le_mul_of_pos_right _ hb0
  refine wpListIn_append_own _ hgd s x t ho base e i0 z sz bytes ht hi0 hz0 hz1 hz2 hz hsz v n xs hs (hown.alloc _) ⟨W.heap.size, 0, none⟩ 1 1 us hx (by omega) (fun j u hj => ?_) hu (by simp only [maxLen]; omega) hn (by simp; omega) (fun v' w' h1 h2 _ => h v' w' h1 ?_)
  · have hadd : (⟨W.heap.size, 0, none⟩ : Addr).add j = ⟨W.heap.size, j, none⟩ := by unfold Addr.add; split <;> simp_all
    rw [hadd]
    exact (Blk.new W us e).cell hj
  · have h0 := World.grownBy_alloc W (.cells us.toArray e) v.ownBlock
    exact ⟨h2.os.trans h0.os, h2.tape.trans h0.tape, h2.output.trans h0.output, Nat.le_trans h0.size h2.size, fun k hk hne => (h2.block k (Nat.lt_of_lt_of_le hk h0.size) hne).trans (h0.block k hk hne)⟩
/-- A row of the round's own, as a round keeps. -/
theorem keeps_own {X : Nat → Prop} {D base sz n : Nat} {T : TypeId → Bool} {W w' : World} {e : TypeId} {v : Value} {xs : List Value} (h : W.ownsRow base e sz v n xs) (hg : W.grownBy w' v.ownBlock) (hT : T e = true) (hX : ∀ k, base ≤ k → ¬ X k) : KeepsT X D T W w' :=
  KeepsT.grown hg (fun r hr => by
    obtain ⟨h1, h2⟩ := h
    rcases h2 with ⟨rfl, _⟩ | ⟨g, cap, cur, rfl, h3, h4, h5⟩
    · cases hr
    · cases hr
      exact ⟨hX _ h3, cur, e, (0, 0), h4, hT⟩)
/-- While candidates are gathered: pre have been taken. -/
structure Gath (own : Nat) (Wd D : Int) (t101 t49 ti : TypeId) (w : World) (cl : Value) (pre : List Nat) (W : World) : Prop where
  f : Blk W w.heap.size [cl] t101
  o : ∃ v, Blk W (w.heap.size + 1) [v] t49 ∧ W.ownsRow (w.heap.size + 2) ti 1 v pre.length (pre.map natI)
  low : Below w.heap.size w W
  took : Took own Wd D pre
  sz : w.heap.size + 2 ≤ W.heap.size
structure GathX (own : Nat) (Wd D : Int) (t49 ti : TypeId) (w : World) (id : Nat) (c : Code) (xs : List Nat) (W : World) : Prop where
  c : c = .exit id
  o : ∃ (v : Value) (pre : List Nat) (x : Nat), xs = pre ++ [x] ∧ Took own Wd D pre ∧ ¬ ((pre.length : Int) < D ∧ (own : Int) - x ≤ Wd) ∧ Blk W (w.heap.size + 1) [v] t49 ∧ W.ownsRow (w.heap.size + 2) ti 1 v pre.length (pre.map natI)
  low : Below w.heap.size w W
structure GathF (t49 ti : TypeId) (w : World) (l : List Nat) (W : World) : Prop where
  o : ∃ v, Blk W (w.heap.size + 1) [v] t49 ∧ W.ownsRow (w.heap.size + 2) ti 1 v l.length (l.map natI)
  low : Below w.heap.size w W
theorem Gath.stays (own : Nat) (Wd D : Int) (t101 t49 ti : TypeId) (w : World) (cl : Value) {B : Nat} (hB : w.heap.size + 2 ≤ B) : StaysC B (Gath own Wd D t101 t49 ti w cl) := fun xs W W' row h hg hr => by
  obtain ⟨v, h1, h2⟩ := h.o
  exact ⟨stays_cells (β := Unit) B _ _ _ () W W' row h.f hg hr, ⟨v, stays_cells (β := Unit) B _ _ _ () W W' row h1 hg hr, stays_own (β := Unit) B _ _ _ _ _ _ () W W' row h2 hg hr⟩, h.low.grown hg h.low.size (fun k hk => by have := (hr _ hk).1; omega), h.took, Nat.le_trans h.sz hg.size⟩
theorem GathX.stays (own : Nat) (Wd D : Int) (t49 ti : TypeId) (w : World) (id : Nat) (c : Code) {B : Nat} (hB : w.heap.size + 2 ≤ B) : StaysC B (GathX own Wd D t49 ti w id c) := fun xs W W' row h hg hr => by
  obtain ⟨v, pre, x, h0, h1, h2, h3, h4⟩ := h.o
  exact ⟨h.c, ⟨v, pre, x, h0, h1, h2, stays_cells (β := Unit) B _ _ _ () W W' row h3 hg hr, stays_own (β := Unit) B _ _ _ _ _ _ () W W' row h4 hg hr⟩, h.low.grown hg h.low.size (fun k hk => by have := (hr _ hk).1; omega)⟩
theorem Gath.fin {own : Nat} {Wd D : Int} {t101 t49 ti : TypeId} {w : World} {cl : Value} {l : List Nat} (xs : List Nat) (W : World) (hS : xs = l) (h : Gath own Wd D t101 t49 ti w cl xs W) : GathF t49 ti w (candGo own Wd D l) W := by
  subst hS
  rw [show candGo own Wd D xs = xs from h.took]
  exact ⟨h.o, h.low⟩
theorem GathX.fin {own : Nat} {Wd D : Int} {t49 ti : TypeId} {w : World} {id : Nat} {l : List Nat} (c : Code) (xs : List Nat) (W : World) (hS : ∃ rest, xs ++ rest = l) (h : GathX own Wd D t49 ti w id c xs W) : c = .exit id ∧ GathF t49 ti w (candGo own Wd D l) W := by
  obtain ⟨rest, rfl⟩ := hS
  obtain ⟨v, pre, x, rfl, h1, h2, h3, h4⟩ := h.o
  rw [h1.stop x rest h2]
  exact ⟨h.c, ⟨v, h3, h4⟩, h.low⟩
end Go.Port
namespace Go.Proofs.Ytngphgdoolcpcaa
open Go.RowKit Go.Port

attribute [local go_sem] Oper.semAt_some

set_option maxRecDepth 100000 in
set_option maxHeartbeats 4000000 in
theorem cgath_any (bs : List UInt8) (A : Nat) (Wd D : Int) (F c g k own : Nat) (a : Option Addr) (ca : Nat) (l : List Nat) (w : World) (h : FdAt 57 119 bs A Wd D F w) (hc : w.cell? ⟨c, 0, none⟩ = some (.pointer (some ⟨F, 0, none⟩)))
    (hl : l.length ≤ 1000000) (hown : own ≤ 1000000) (hlo : ∀ x ∈ l, (x : Int) ≤ 1000000) (hb : w.cell? ⟨g, 0, none⟩ = some (.slice a l.length ca)) (hb2 : w.cell? ⟨k, 0, none⟩ = some (.int .i64 (own : Int))) (hcl : CellsAt w a (l.map natI)) :
    Calls Try.prog 52 #[.func (.func 72) #[] #[.pointer (some ⟨g, 0, none⟩), .pointer (some ⟨k, 0, none⟩)], .func (.func 54) #[] #[.pointer (some ⟨c, 0, none⟩)]] w
      fun e w' => ∃ v, e = .returned v ∧ w'.ownsRow (w.heap.size + 2) 3 1 v (candGo own Wd D l).length ((candGo own Wd D l).map natI) ∧ Below w.heap.size w w' := by
  have hcs := World.block_lt_of_cell? w _ hc
  have hgs := World.block_lt_of_cell? w _ hb
  have hks := World.block_lt_of_cell? w _ hb2
  have HWt := hid (fun (n far : Int) (W : World) (hW : Below w.heap.size w W) => cwants_any bs A Wd D F c n far W (h.low hW) ((hW.cell (p := ⟨c, 0, none⟩) hcs).trans hc))
  have HSq := hid (fun (w2 : World) (hW : Below w.heap.size w w2) => xchain2_seq (fun k => k < w.heap.size) (fun t => t == 3) g k a ca l (own : Int) w2 hl (by omega) hlo hgs hks rfl rfl ((hW.cell (p := ⟨g, 0, none⟩) hgs).trans hb) ((hW.cell (p := ⟨k, 0, none⟩) hks).trans hb2) (fun j u hu => by
    obtain ⟨b, off, e, h1, h2⟩ := hcl j u hu
    exact ⟨b, off, e, h1, (hW.cell (p := ⟨b, off + j, none⟩) h1).trans h2⟩))
  have HLo := hid hlo
  clear h hc hb hb2 hcl hlo
  have hlI : (l.length : Int) ≤ 1000000 := by omega
  refine (callsIn_wide (n := 1)).1 ?_
  refine callsIn_of_wp_marks Try.func52 rfl trivial ?_ rfl
  simp only [Try.ntmps52, List.size_toArray, List.length_cons, List.length_nil, Nat.reduceAdd, Nat.reduceSub, Array.replicate_succ, Array.replicate_zero, List.push_toArray, List.append_toArray, List.nil_append, List.cons_append]
  refine wpIn_wide.2 ?_
  go_wp2_with fail
  refine (wpIn_wide (n := 1)).1 ?_
  have hB2 : Below w.heap.size w ((w.alloc (.cells #[.func (.func 54) #[] #[.pointer (some ⟨c, 0, none⟩)]] 101)).alloc (.cells #[.slice none 0 0] 49)) := (below_new w _).alloc (by simp) _
  have hs2 : ((w.alloc (.cells #[.func (.func 54) #[] #[.pointer (some ⟨c, 0, none⟩)]] 101)).alloc (.cells #[.slice none 0 0] 49)).heap.size = w.heap.size + 2 := by simp
  have hf2 : Blk ((w.alloc (.cells #[.func (.func 54) #[] #[.pointer (some ⟨c, 0, none⟩)]] 101)).alloc (.cells #[.slice none 0 0] 49)) w.heap.size [.func (.func 54) #[] #[.pointer (some ⟨c, 0, none⟩)]] 101 := (Blk.new w _ _).alloc _
  have ho2 : Blk ((w.alloc (.cells #[.func (.func 54) #[] #[.pointer (some ⟨c, 0, none⟩)]] 101)).alloc (.cells #[.slice none 0 0] 49)) (w.heap.size + 1) [.slice none 0 0] 49 := by
    have := Blk.new (w.alloc (.cells #[.func (.func 54) #[] #[.pointer (some ⟨c, 0, none⟩)]] 101)) [.slice none 0 0] 49
    rwa [show (w.alloc (.cells #[.func (.func 54) #[] #[.pointer (some ⟨c, 0, none⟩)]] 101)).heap.size = w.heap.size + 1 from by simp] at this
  generalize ((w.alloc (.cells #[.func (.func 54) #[] #[.pointer (some ⟨c, 0, none⟩)]] 101)).alloc (.cells #[.slice none 0 0] 49)) = w2 at *
  have hG0 : Gath own Wd D 101 49 3 w (.func (.func 54) #[] #[.pointer (some ⟨c, 0, none⟩)]) [] w2 := ⟨hf2, ⟨_, ho2, World.ownsRow_nil _ _ _ _⟩, hB2, Took.nil _ _ _, by omega⟩
  apply wpIn_rangeStA (gf := 72) (lb := #[.pointer (some ⟨g, 0, none⟩), .pointer (some ⟨k, 0, none⟩)]) rfl (enters_of Try.func72 (by kernel_rfl) rfl) (encs := encsD (own : Int))
    (HSq.out w2 hB2) (fun _ => rfl)
    (Gath own Wd D 101 49 3 w (.func (.func 54) #[] #[.pointer (some ⟨c, 0, none⟩)])) (GathX own Wd D 49 3 w 0) (Gath.stays _ _ _ _ _ _ _ _ (by omega)) (fun cd => GathX.stays _ _ _ _ _ _ _ cd (by omega)) hG0
    0 (fun _ W => GathF 49 3 w (candGo own Wd D l) W) Gath.fin GathX.fin (fun _ _ h => h)
  case hassign =>
    intro l' x W K hK
    unfold encsD
    gi_wp2
    exact hK
  case hbody =>
    rintro l' pre x W hI hSp
    have hx : (x : Int) ≤ 1000000 := HLo.out x (by
      obtain ⟨rest, hr⟩ := hSp
      rw [← hr]
      simp)
    have hpl : pre.length + 1 ≤ l.length := by
      obtain ⟨rest, hr⟩ := hSp
      rw [← hr]
      simp
    have hplI : (pre.length : Int) + 1 ≤ (l.length : Int) := by omega
    obtain ⟨v, hv1, hv2⟩ := hI.o
    obtain ⟨av, cv, rfl⟩ := own_slice hv2
    have f0 := hI.f.cell (k := 0) rfl
    have o0 := hv1.cell (k := 0) rfl
    have oz := hv1.frozen 0
    have olt := hv1.lt
    have HW1 := hid (callsIn_wide (n := 0) |>.2 (HWt.out (pre.length : Int) ((own : Int) - (x : Int)) W hI.low))
    have HI := hid hI
    have HV1 := hid hv1
    have HV2 := hid hv2
    clear hI hv1 hv2 hSp
    by_cases hc : (pre.length : Int) < D ∧ (own : Int) - (x : Int) ≤ Wd
    · have hd : (decide ((pre.length : Int) < D) && decide ((own : Int) - (x : Int) ≤ Wd)) = true := by simp [hc]
      rw [hd] at HW1
      have HC := hid hc
      clear hc hd
      gi_wp2_with (first | (gi_at_builtin; refine Hid.out ?_) | (refine ⟨trivial, rfl, ?_⟩; refine HW1.out.mono ?_; rintro e w' ⟨rfl, rfl⟩))
      refine hid ?_
      refine wpListIn_append1 rfl _ _ 49 rfl 3 _ 1 8 Try.underlying49 Try.info_int rfl (by decide) (by decide) W (w.heap.size + 2) _ pre.length _ [.int .i64 (x : Int)] rfl ?hu rfl rfl (by exact HV2.out) ?hn HI.out.sz ?hk
      case hu => simp [Value.oneCell']
      case hn => omega
      case hk =>
        intro v' w3 hown' hg
        obtain ⟨av', cv', rfl⟩ := own_slice hown'
        have hf3 := HI.out.f.grown hg (own_ne HV2.out (by omega))
        have hv3 := HV1.out.grown hg (own_ne HV2.out (by omega))
        have o3 := hv3.cell (k := 0) rfl
        have z3 := hv3.frozen 0
        have hK1 : KeepsT (fun k => k < w.heap.size) w2.heap.size (fun t => t == 3) W w3 := keeps_own HV2.out hg rfl (fun k hk => by omega)
        have hK2 := hK1.trans (KeepsT.set w3 ⟨w.heap.size + 1, 0, none⟩ (.slice av' (pre.length + 1) cv') (by dsimp only; omega) (by dsimp only; omega))
        have hv4 := hv3.set 0 (.slice av' (pre.length + 1) cv')
        have hf4 := hf3.other (a := ⟨w.heap.size + 1, 0, none⟩) (.slice av' (pre.length + 1) cv') (by dsimp only; omega)
        have ho4 := own_far hown' (a := ⟨w.heap.size + 1, 0, none⟩) (.slice av' (pre.length + 1) cv') (by dsimp only; omega)
        have hb4 := (HI.out.low.grown hg HI.out.low.size (fun k hk => by have := (HV2.out.lt k hk).1; omega)).setCell (p := ⟨w.heap.size + 1, 0, none⟩) (Nat.le_succ _) (.slice av' (pre.length + 1) cv')
        have hs4 : w.heap.size + 2 ≤ (w3.setCell ⟨w.heap.size + 1, 0, none⟩ (.slice av' (pre.length + 1) cv')).heap.size := by
          have := hg.size
          have := HI.out.sz
          simp
          omega
        have HF := hid (And.intro hK2 (show Gath own Wd D 101 49 3 w (.func (.func 54) #[] #[.pointer (some ⟨c, 0, none⟩)]) (pre ++ [x]) (w3.setCell ⟨w.heap.size + 1, 0, none⟩ (.slice av' (pre.length + 1) cv')) from
          ⟨hf4, ⟨_, hv4, by rw [List.length_append, List.map_append]; exact ho4⟩, hb4, HI.out.took.next x HC.out.1 HC.out.2, hs4⟩))
        clear hK1 hK2 hv4 hf4 ho4 hb4 hs4 hf3 hv3 hown' hg f0 o0 oz olt
        gi_wp2
        exact HF.out
    · have hd : (decide ((pre.length : Int) < D) && decide ((own : Int) - (x : Int) ≤ Wd)) = false := by
        rw [← Bool.not_eq_true]
        simpa using hc
      rw [hd] at HW1
      have HX := hid (show GathX own Wd D 49 3 w 0 (.exit 0) (pre ++ [x]) W from ⟨rfl, ⟨_, pre, x, rfl, HI.out.took, hc, HV1.out, HV2.out⟩, HI.out.low⟩)
      clear hc hd
      gi_wp2_with (refine ⟨trivial, rfl, ?_⟩; refine HW1.out.mono ?_; rintro e w' ⟨rfl, rfl⟩)
      exact ⟨KeepsT.refl _ _ _ _, HX.out⟩
  case hrest =>
    rintro Dd xs W hD hF hK
    obtain ⟨v, h1, h2⟩ := hF.o
    obtain ⟨av, cv, rfl⟩ := own_slice h2
    have o0 := h1.cell (k := 0) rfl
    have oz := h1.frozen 0
    have hol := own_far h2 (a := ⟨w.heap.size + 1, 0, none⟩) (.slice av (candGo own Wd D l).length cv) (by dsimp only; omega)
    have h1s := h1.set 0 (.slice av (candGo own Wd D l).length cv)
    have hbl := hF.low.setCell (p := ⟨w.heap.size + 1, 0, none⟩) (Nat.le_succ _) (.slice av (candGo own Wd D l).length cv)
    have hKs : (W.setCell ⟨w.heap.size + 1, 0, none⟩ (.slice av (candGo own Wd D l).length cv)).heap[Dd]? = some (.deferred (some [])) := (Below.heap_setCell _ _ _ _ (by dsimp only; omega)).trans hK
    have HH := hid (And.intro hol (And.intro h1s (And.intro hbl hKs)))
    clear hol h1s hbl hKs h1 h2 hF hK
    go_wp2_with fail
    generalize W.setCell ⟨w.heap.size + 1, 0, none⟩ (.slice av (candGo own Wd D l).length cv) = W9 at *
    obtain ⟨hol, h1s, hbl, hKs⟩ := HH.out
    refine ⟨by simp, .inl ⟨_, _, rfl, run_takeDeferred hKs, ?_⟩⟩
    have k1 : ∀ o, Blk (W9.putObj Dd o) (w.heap.size + 1) [.slice av (candGo own Wd D l).length cv] 49 := fun o => (World.putObj_heap_other (by omega)).trans h1s
    have q1 := fun o => (k1 o).cell (k := 0) rfl
    refine ⟨.slice av (candGo own Wd D l).length cv, by simp [results, Try.results52, go_sem, q1], _, rfl, ?_, hbl.grown (grownBy_putObj' _ _ _) hbl.size (fun k hk => by cases hk; omega)⟩
    exact stays_own (β := Unit) 0 _ _ _ _ _ _ () W9 _ (some Dd) hol (grownBy_putObj' _ _ _) (fun r hr => by cases hr; exact ⟨Nat.zero_le _, _, hKs, rfl⟩)
end Go.Proofs.Ytngphgdoolcpcaa
