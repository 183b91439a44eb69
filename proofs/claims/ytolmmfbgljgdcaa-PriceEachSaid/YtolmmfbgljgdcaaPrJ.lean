/-
  The walks of layer 32 (price): the iterator over the costs of the prefixes.
-/
import Derived.Test.YtolmmfbgljgdcaaPrM
import Derived.Test.YtolmmfbgljgdcaaPrE
import Derived.Test.YtolmmfbgljgdcaaHeldIn
import Derived.OwnWalkIn
namespace Go.Port
open Go.RowKit
/-- The blocks of cells below n lie as they lay. -/
def BlX (n : Nat) (w W : World) : Prop := ∀ (k : Nat) (o : Obj), k < n → w.heap[k]? = some o → o.isCells = true → W.heap[k]? = some o
theorem BlX.refl (n : Nat) (w : World) : BlX n w w := fun _ _ _ h _ => h
theorem BlX.trans {n : Nat} {A B C : World} (h : BlX n A B) (h' : BlX n B C) : BlX n A C := fun k o hk ho hc => h' k o hk (h k o hk ho hc) hc
theorem BlX.low {n B : Nat} {w W : World} (h : Below B w W) (hn : n ≤ B) : BlX n w W := fun k _ hk h' _ => (h.block k (by omega)).trans h'
theorem BlX.of_keeps {n : Nat} {X : Nat → Prop} {D : Nat} {T : TypeId → Bool} {A A' : World} (h : KeepsT X D T A A') (hX : ∀ k, k < n → X k) : BlX n A A' := fun k o hk h' hc => h.same k o h' (.inr ⟨hX k hk, hc⟩)
theorem BlX.cell {n : Nat} {w W : World} (h : BlX n w W) {a : Addr} {u : Value} (hb : a.block < n) (hc : w.cell? a = some u) : W.cell? a = some u := by
  obtain ⟨o, h1, h2⟩ := cells_of_cell hc
  rw [World.cell?_of_block ((h _ _ hb h1 h2).trans h1.symm)]
  exact hc
theorem Blk.keep {n : Nat} {w W : World} {b : Nat} {vs : List Value} {t : TypeId} (h : Blk w b vs t) (hk : BlX n w W) (hb : b < n) : Blk W b vs t := hk _ _ hb h rfl
/-- The costs of the prefixes. -/
def preL (C : Nat → List Int) (bs : List UInt8) : List (Int × Int) := (List.range bs.length).map fun (i : Nat) => ((i : Int), litsC C (bs.take (i + 1)))
theorem preL_length (C : Nat → List Int) (bs : List UInt8) : (preL C bs).length = bs.length := by simp [preL]
theorem preL_at (C : Nat → List Int) (bs : List UInt8) {k : Nat} (h : k < bs.length) : (preL C bs)[k]? = some ((k : Int), litsC C (bs.take (k + 1))) := by
  unfold preL
  rw [List.getElem?_map, List.getElem?_range h]
  rfl
theorem preL_take (C : Nat → List Int) (bs : List UInt8) {k : Nat} (h : k < bs.length) : (preL C bs).take (k + 1) = (preL C bs).take k ++ [((k : Int), litsC C (bs.take (k + 1)))] := by
  have hl : k < (preL C bs).length := by rw [preL_length]; exact h
  have e := preL_at C bs h
  obtain ⟨_, e2⟩ := List.getElem?_eq_some_iff.1 e
  rw [List.take_succ_eq_append_getElem hl, e2]
theorem litsC_take (C : Nat → List Int) (bs : List UInt8) {k : Nat} {b : UInt8} (h : bs[k]? = some b) : litsC C (bs.take (k + 1)) = litsC C (bs.take k) + litsC C [b] := by
  obtain ⟨hl, e⟩ := List.getElem?_eq_some_iff.1 h
  rw [List.take_succ_eq_append_getElem hl, e, lits_snoc]
  simp [litsC]
end Go.Port
namespace Go.Proofs.Ytolmmfbgljgdcaa
open Go.RowKit Go.Port

theorem Cs.keep {w W : World} {a : Option Addr} {cs : List Value} (h : Cs w a cs) (hk : BlX w.heap.size w W) : Cs W a cs := fun j u hu => by
  obtain ⟨b, o, e, hb, hc⟩ := h j u hu
  have := hk.cell (a := ⟨b, o + j, none⟩) hb hc
  exact ⟨b, o, e, World.block_lt_of_cell? W _ this, this⟩
theorem PrAt.keep {w W : World} {M : Nat} {C : Nat → List Int} (h : PrAt w M C) (hk : BlX w.heap.size w W) : PrAt W M C := by
  obtain ⟨R, V, h1, h2, h3⟩ := h.ex
  refine ⟨⟨R, V, h1.keep hk h1.lt, h2.keep hk h2.lt, fun i hi => ?_⟩, h.ok⟩
  obtain ⟨g, cap, e1, e2, e3, cs, e4, e5⟩ := h3 i hi
  exact ⟨g, cap, e1, e2, e3, cs, e4.keep hk e4.lt, e5⟩

attribute [local go_sem] Oper.semAt_some

set_option maxRecDepth 100000 in
set_option maxHeartbeats 4000000 in
theorem prpre1_seq (X : Nat → Prop) (T : TypeId → Bool) (v0 w0 : World) (hX : ∀ k, k < v0.heap.size → X k) (hv : Below v0.heap.size v0 w0) (M : Nat) (C : Nat → List Int) (h : PrAt v0 M C) (q1 q2 : Nat) (b : Option Addr) (cb : Nat) (bs : List UInt8) (hl : bs.length ≤ 1000)
    (hb1 : Blk v0 q1 [.pointer (some ⟨M, 0, none⟩)] 27) (hb2 : Blk v0 q2 [.slice b bs.length cb] 24) (hc : Cs v0 b (bs.map bv)) :
    SeqSt Try.prog 60 #[.pointer (some ⟨q1, 0, none⟩), .pointer (some ⟨q2, 0, none⟩)] (fun x : Int × Int => #[.int .i64 x.1, .int .i64 x.2]) (fun xs => xs = preL C bs) (fun xs => ∃ rest, xs ++ rest = preL C bs) X T w0 := by
  intro lp J Jx W hW hJ hJx hY hJ0
  have hT0 : BlX v0.heap.size v0 W := (BlX.low hv (Nat.le_refl _)).trans (BlX.low hW hv.size)
  have hvW : v0.heap.size ≤ W.heap.size := Nat.le_trans hv.size hW.size
  have HP := hid (fun (W' : World) (hT : BlX v0.heap.size v0 W') => PrAt.keep h hT)
  have HB1 := hid (fun (W' : World) (hT : BlX v0.heap.size v0 W') => (hb1.keep hT hb1.lt).cell (k := 0) rfl)
  have HB2 := hid (fun (W' : World) (hT : BlX v0.heap.size v0 W') => (hb2.keep hT hb2.lt).cell (k := 0) rfl)
  have HC := hid (fun (W' : World) (hT : BlX v0.heap.size v0 W') => Cs.keep hc hT)
  have HLB := hid (fun l => lits_bounds (h.ok 0 (by decide)) l)
  have HX := hid hX
  have HY := hid hY
  have HJ := hid hJ
  have c0 := HB1.out W hT0
  have c1 := HB2.out W hT0
  have HN := hid (callsIn_wide (n := 0) |>.2 (prno_any W M C (HP.out W hT0)))
  have hlI : (bs.length : Int) ≤ 1000 := by omega
  clear hY hb1 hb2 hc h hv hX hW hJx hJ
  refine callsIn_of_wp Try.func60 rfl trivial ?_ rfl
  simp only [Try.ntmps60, List.size_toArray, List.length_cons, List.length_nil, Nat.reduceAdd, Nat.reduceSub, Array.replicate_succ, Array.replicate_zero, List.push_toArray, List.append_toArray, List.nil_append, List.cons_append]
  gi_wp2
  refine wpIn_wide.2 (wp_scope_straight ((wpIn_wide (n := 0)).1 ?_))
  gi_wp2_with (refine ⟨trivial, rfl, ?_⟩; refine HN.out.mono ?_; rintro e w' ⟨rfl, rfl⟩)
  refine wpIn_label ?_
  gi_wp2
  clear c0 c1
  gi_loopw [4, 11] (fun n i wr => ∃ (k : Nat), k ≤ bs.length ∧ n = .int .i64 (litsC C (bs.take k)) ∧ i = .int .i64 (k : Int) ∧ J ((preL C bs).take k) wr ∧ BlX v0.heap.size v0 wr ∧ v0.heap.size ≤ wr.heap.size) (fun _ i _ => bs.length - (intOf i).toNat)
  case atStart => exact ⟨0, Nat.zero_le _, rfl, rfl, hJ0, hT0, hvW⟩
  case round =>
    obtain ⟨k, hk, rfl, rfl, hJk, hTr, hSz⟩ := hrel
    by_cases hlt : k < bs.length
    · obtain ⟨x, hx⟩ : ∃ x, bs[k]? = some x := ⟨bs[k], by simp [hlt]⟩
      obtain ⟨bl, off, rfl, hb0, c9⟩ := HC.out wr hTr k (bv x) (by rw [List.getElem?_map, hx]; rfl)
      have c1 := HB1.out wr hTr
      have c0 : wr.cell? ⟨bl, off + k, none⟩ = some (.int .u8 x.toNat) := c9
      clear c9
      have hbn := below_new wr (.cells #[.int .u8 x.toNat] 5)
      have HT := hid (hTr.trans (BlX.low hbn hSz))
      have HSz := hid (show v0.heap.size ≤ (wr.alloc (.cells #[.int .u8 x.toNat] 5)).heap.size from Nat.le_trans hSz hbn.size)
      have hcs : Cs (wr.alloc (.cells #[.int .u8 x.toNat] 5)) (some ⟨wr.heap.size, 0, none⟩) ([x].map bv) := fun j u hu => ⟨wr.heap.size, 0, rfl, (Blk.new wr [.int .u8 x.toNat] 5).lt, by rw [Nat.zero_add]; exact (Blk.new wr [.int .u8 x.toNat] 5).cell hu⟩
      have HL := hid (callsIn_wide (n := 0) |>.2 (prlits_any _ M C (HP.out _ HT.out) (some ⟨wr.heap.size, 0, none⟩) 1 [x] (by simp) hcs))
      have HJk := hid (StaysC.low HJ.out hJk hbn)
      have HST := hid (preL_take C bs hlt)
      have HPre := hid (show ∃ rest, (preL C bs).take (k + 1) ++ rest = preL C bs from ⟨(preL C bs).drop (k + 1), List.take_append_drop _ _⟩)
      have hsum := litsC_take C bs hx
      have hb1 := HLB.out (bs.take k)
      have hb2 := HLB.out [x]
      have hw : IntKind.i64.wrap (litsC C (bs.take k) + litsC C [x]) = litsC C (bs.take (k + 1)) := by
        have : ((bs.take k).length : Int) ≤ 1000 := by rw [List.length_take]; omega
        have : (([x] : List UInt8).length : Int) = 1 := rfl
        rw [hsum, IntKind.wrap_i64]; omega
      have HK := hid hlt
      clear hx hTr hJk hk hlt hbn hcs hSz hsum hb1 hb2
      have tk : (k : Int) < (bs.length : Int) := by have := HK.out; omega
      obtain ⟨fn, tmps, assign, body, hy, hRy⟩ := HY.out ((preL C bs).take k) ((k : Int), litsC C (bs.take (k + 1))) _ HJk.out (by rw [← HST.out]; exact HPre.out)
      have HRy := hid hRy
      have hy : (Instr.yield lp #[.int .i64 (k : Int), .int .i64 (litsC C (bs.take (k + 1)))]).run Try.prog (wr.alloc (.cells #[.int .u8 x.toNat] 5)) = .ok (.round lp fn tmps assign body) (wr.alloc (.cells #[.int .u8 x.toNat] 5)) := hy
      clear hRy
      gi_wp2_with (refine ⟨trivial, rfl, ?_⟩; refine HL.out.mono ?_; rintro e w' ⟨rfl, rfl⟩)
      refine ⟨rfl, HRy.out.mono ?_⟩
      rintro e w2 ⟨hkp, (⟨rfl, hJ2⟩ | ⟨rfl, hJx2⟩)⟩
      · have HT2 := hid (HT.out.trans (BlX.of_keeps hkp HX.out))
        have HSz2 := hid (Nat.le_trans HSz.out hkp.size)
        clear hy hkp
        gi_wp2
        go_roundw
        case rel =>
          refine ⟨k + 1, HK.out, by first | rfl | skip, by go_num, ?_, HT2.out, HSz2.out⟩
          rw [HST.out]
          exact hJ2
        case measure =>
          have := HK.out
          simp [intOf]; omega
      · have HE := hid (show ∃ rest, ((preL C bs).take k ++ [((k : Int), litsC C (bs.take (k + 1)))]) ++ rest = preL C bs from by rw [← HST.out]; exact HPre.out)
        clear hy hkp
        gi_wp2
        simp only [Exit.noGoto_normal]
        refine bodyPost_end (results_none rfl _ _ _) rfl ?_
        exact ⟨⟨_, rfl⟩, .inr ⟨_, HE.out, hJx2⟩⟩
    · obtain rfl : k = bs.length := by omega
      rw [List.take_of_length_le (by rw [preL_length]; exact Nat.le_refl _)] at hJk
      gi_wp2
      simp only [Exit.noGoto_normal]
      refine bodyPost_end (results_none rfl _ _ _) rfl ?_
      exact ⟨⟨_, rfl⟩, .inl ⟨_, rfl, hJk⟩⟩
end Go.Proofs.Ytolmmfbgljgdcaa
