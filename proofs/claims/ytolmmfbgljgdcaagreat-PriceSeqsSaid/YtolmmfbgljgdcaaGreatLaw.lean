/-
  From a law's walk to its statement: what the arguments are in memory, and that they read behind the call as before.
-/
import Derived.Test.YtolmmfbgljgdcaaGreatRows
import Derived.Test.YtolmmfbgljgdcaaGreatBase
import Derived.ProofKit
import Derived.OpenShut
import Derived.ReadAgain
import Derived.ChangeOld
namespace Go.Port
open Go.RowKit Go.ChangeShapes Go.WideShapes

section
variable {H : Type} {enc : TypeId × Value → H} {P : Program} {W W' : World}

theorem trodAll_low : ∀ {ts : List TypeId} {vs : List Value} {ds : List (DataW H)} {ps : List MemPlace} {sp : Nat → Bool}, DataW.TrodAll enc P W 0 sp true ts vs ds ps → Below W.heap.size W W' → DataW.TrodAll enc P W' 0 sp true ts vs ds ps
  | [], [], [], _, _, h, _ => h
  | _ :: _, _ :: _, _ :: _, _, _, ⟨p, q, ⟨n, hn⟩, h2, e⟩, hb => ⟨p, q, ⟨n, DataW.trod_carry n _ _ _ hn (fun x hx => hb.same (DataW.trod_lt n _ _ _ hn x hx))⟩, trodAll_low h2 hb, e⟩

/-- A law's end: it has returned true, and what lay lies. -/
theorem law_post {T : TypeId → Prop} (K : Kids P T) (hz : ∀ t e, T t → P.underlying t = some (.slice e) → 0 < P.cellsOf e) {f : Func} {s : ChangeSpec} {t4 : TypeId} (h4 : P.underlying t4 = some .bool) (hr : f.resultTypes = #[t4]) (hv : s.vars = [])
    {args : Array Value} {ds : List (DataW H)} {before : List MemPlace} (hW : DataW.Whole enc P f.params.toList s.vars false W args.toList ds [] before) (hT : ∀ t ∈ f.params.toList, T t)
    (hs1 : (s.fn H (ds ++ [])).results = [.lit (.bool true)]) (hs2 : (s.fn H (ds ++ [])).args = ds) (hs3 : (s.fn H (ds ++ [])).vars = []) (hb : Below W.heap.size W W') :
    s.post enc P f false true false false W args (.bool true) W' := by
  have hW' := hW
  obtain ⟨p, q, hA, hV, rfl, _, _⟩ := hW
  rw [hv] at hV
  obtain rfl : q = [] := hV
  refine ⟨ds, [], _, [], p, [], hW', ?_, ?_, ?_, hb.frame _, fun h => by cases h⟩
  · rw [hs1, hr]
    exact trodAll_cons_mk (shut_bool h4 _) trodAll_mk0
  · rw [hs2]
    refine trodAll_low (DataW.TrodAll.respare K hz hT hA (fun x hx => ?_)) hb
    simpa using hW'.lt x (by simpa using hx)
  · rw [hs3, hv]
    rfl

/-- The value is a slice of n elements of sz cells each that reads as cs; where it is empty nothing is known of its address. -/
def Rs (w : World) (sz : Nat) (v : Value) (n : Nat) (cs : List Value) : Prop :=
  cs.length = n * sz ∧ ∃ a c, v = .slice a n c ∧ n ≤ c ∧ c ≤ maxLen ∧ (a = none → c = 0) ∧ ∀ j u, cs[j]? = some u → ∃ b off, a = some ⟨b, off, none⟩ ∧ b < w.heap.size ∧ w.cell? ⟨b, off + j, none⟩ = some u
theorem Rs.of_sl {w : World} {sz n : Nat} {v : Value} {cs : List Value} (h : Sl w sz v n cs) : Rs w sz v n cs := ⟨h.1, h.open⟩
theorem Rs.below {w w' : World} {sz n : Nat} {v : Value} {cs : List Value} (h : Rs w sz v n cs) (hb : Below w.heap.size w w') : Rs w' sz v n cs := by
  obtain ⟨h0, a, c, h1, h2, h3, h4, h5⟩ := h
  refine ⟨h0, a, c, h1, h2, h3, h4, fun j u hu => ?_⟩
  obtain ⟨b, off, k1, k2, k3⟩ := h5 j u hu
  exact ⟨b, off, k1, Nat.lt_of_lt_of_le k2 hb.size, (hb.cell (p := ⟨b, off + j, none⟩) k2).trans k3⟩

/-- A slice of integers of any kind, opened. -/
theorem open_row {k : IntKind} {t e : TypeId} (ht : P.underlying t = some (.slice e)) (he : P.underlying e = some (.int k)) (hc : P.cellsOf e = 1) {v : Value} {cs : List Value} {m : Nat} {x : DataW H × List MemPlace} (hcs : cs = [v])
    (hf : DataW.trod enc P W 0 (fun _ => true) true m t cs = some x) : ∃ l : List Int, Rs W 1 v l.length (l.map (Value.int k)) ∧ ∀ x ∈ l, (Lit.int k x).wf = true := by
  subst hcs
  rcases open_ints ht he hc hf with ⟨hcs, _⟩ | ⟨a', n, c, zs, hcs, _, hl, hm, hlen, _, hcell, hwf⟩
  · simp only [List.cons.injEq, and_true] at hcs
    subst hcs
    exact ⟨[], Rs.of_sl (Sl.nil W 1), fun x hx => by simp at hx⟩
  · simp only [List.cons.injEq, and_true] at hcs
    subst hcs
    simp only [if_true] at hlen
    have hln : (zs.take n).length = n := by rw [List.length_take]; omega
    refine ⟨zs.take n, ⟨by simp, some a', c, by rw [hln], by rw [hln]; exact hl, hm, (fun h => by cases h), fun j u hu => ?_⟩, fun x hx => hwf x (List.mem_of_mem_take hx)⟩
    rw [List.getElem?_map] at hu
    obtain ⟨x, hx, rfl⟩ := Option.map_eq_some_iff.1 hu
    have hj : j < n := by
      have := (List.getElem?_eq_some_iff.1 hx).1
      rwa [hln] at this
    obtain ⟨b, off, rfl, h⟩ := ints_at hcell (by omega)
    refine ⟨b, off, rfl, World.block_lt_of_cell? W _ (h 0 (by omega)), ?_⟩
    rw [h j (by omega)]
    rw [List.getElem?_take_of_lt hj] at hx
    simp [List.getD_eq_getElem?_getD, hx]

theorem open_rowV {k : IntKind} {t e : TypeId} (ht : P.underlying t = some (.slice e)) (he : P.underlying e = some (.int k)) (hc : P.cellsOf e = 1) {v : Value} {d : DataW H} {ps : List MemPlace} {b0 : Nat}
    (hv : Value.okWide P W .any b0 t v) (hd : DataW.Trod enc P W 0 (fun _ => true) true t v d ps) : ∃ l : List Int, Rs W 1 v l.length (l.map (Value.int k)) ∧ ∀ x ∈ l, (Lit.int k x).wf = true := by
  obtain ⟨a, n, c, rfl⟩ := okWide_slice ht hv
  obtain ⟨m, hf⟩ := hd
  exact open_row ht he hc rfl hf

theorem bytes_of {l : List Int} (h : ∀ x ∈ l, (Lit.int .u8 x).wf = true) : ∃ bs : List UInt8, l.map (Value.int .u8) = bs.map bv ∧ bs.length = l.length := by
  refine ⟨l.map fun x => UInt8.ofNat x.toNat, ?_, by simp⟩
  rw [List.map_map]
  refine List.map_congr_left fun x hx => ?_
  have := bounds_u8 (h x hx)
  simp only [bv, Function.comp_apply, UInt8.toNat_ofNat']
  congr 1
  omega
end
end Go.Port
namespace Go.Proofs.YtolmmfbgljgdcaaGreat
open Go.RowKit Go.Port

theorem Tryz.own : ownKnob Tryz.prog.godebug = none := by kernel_rfl
theorem Tryz.kids : Kids Tryz.prog (· < Tryz.prog.types.size) := kids_rows (by kernel_rfl) (by kernel_rfl)
theorem Tryz.full : ∀ t e, t < Tryz.prog.types.size → Tryz.prog.underlying t = some (.slice e) → 0 < Tryz.prog.cellsOf e := slices_full_of Tryz.prog (by kernel_rfl)
end Go.Proofs.YtolmmfbgljgdcaaGreat
