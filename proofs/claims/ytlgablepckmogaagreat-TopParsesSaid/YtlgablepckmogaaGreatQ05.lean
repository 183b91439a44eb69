/-
  The walks of layer 27, first part: the keys of the map; New, none, of, from. The walks of layer 27, second part: Add, to an empty index. The walks of layer 27, third part: Previous, the chain of earlier positions, its iterator. The walks of layer 27, fourth part: the chain of earlier positions is gathered; its iterator. The walks of layer 27, fifth part: Chain and its iterator.
-/
import Derived.Test.YtlgablepckmogaaGreatQ03
import Derived.Test.YtlgablepckmogaaGreatQ04
import Derived.Test.YtlgablepckmogaaGreatQ01
import Derived.Test.YtlgablepckmogaaGreatChecked
import Derived.Laws.CopyOwn
import Derived.Deep.DeepCutAuto
import Derived.Deep.LoopGhost
import Derived.Deep.RegionHeld3
import Derived.ScopeJumps
import Derived.Outline
import Derived.OwnWalkIn
import Derived.TacticsInMore
import Derived.LoopNIn
import Derived.LoopIn
import Derived.WalkMore
import Derived.Shelf.Abstract
namespace Go.Port
open Go.RowKit
def kv (K : Key3) : Value := .agg #[bv K.1, bv K.2.1, bv K.2.2, bv 0, bv 0, bv 0, bv 0, bv 0]
theorem bv_inj {x y : UInt8} (h : bv x = bv y) : x = y := by
  unfold bv at h
  simp only [Value.int.injEq, true_and] at h
  exact UInt8.toNat_inj.1 (by omega)
theorem kv_eq (K : Key3) : kv K = .agg #[.int .u8 (K.1.toNat : Int), .int .u8 (K.2.1.toNat : Int), .int .u8 (K.2.2.toNat : Int), .int .u8 0, .int .u8 0, .int .u8 0, .int .u8 0, .int .u8 0] := by
  unfold kv bv
  rfl
theorem kv_inj {K K' : Key3} (h : kv K = kv K') : K = K' := by
  obtain ⟨a, b, c⟩ := K
  obtain ⟨a', b', c'⟩ := K'
  unfold kv at h
  simp only [Value.agg.injEq, Array.mk.injEq, List.cons.injEq, and_true] at h
  obtain ⟨h1, h2, h3⟩ := h
  rw [bv_inj h1, bv_inj h2, bv_inj h3]
theorem bv_wf (x : UInt8) : (Lit.int .u8 (x.toNat : Int)).wf = true := by
  have := x.toNat_lt
  simp [Lit.wf, IntKind.min, IntKind.max, IntKind.signed, IntKind.bits]
  omega
end Go.Port
namespace Go.Proofs.YtlgablepckmogaaGreat
open Go.RowKit Go.Port Go.WideMaps
theorem Tryz.keyLaw : KeyLaw Tryz.prog 82 := deep_law_gate (by kernel_rfl) (by decide +kernel) (by decide +kernel) (by kernel_rfl) (by kernel_rfl)
theorem Tryz.keyed (K : Key3) : ∃ l, keyOf Tryz.prog 82 (kv K) = some l := by
  have h := Tryz.underlying82
  have h8 := Tryz.underlying5
  have hc : Tryz.prog.cellsOf 82 = 8 := by kernel_rfl
  have hc8 : Tryz.prog.cellsOf 5 = 1 := by kernel_rfl
  have hk : Tryz.prog.keyType 82 = true := by kernel_rfl
  have hr : List.range 8 = [0, 1, 2, 3, 4, 5, 6, 7] := rfl
  unfold keyOf
  have h0 : 0 < Tryz.prog.types.size := by decide +kernel
  obtain ⟨m, hm⟩ : ∃ m, Tryz.prog.types.size + 1 = m + 1 + 1 := ⟨Tryz.prog.types.size - 1, by omega⟩
  rw [hm, h]
  clear hm
  have h00 : (Lit.int .u8 0).wf = true := by decide
  simp [hk, Value.formed, h, hc, kv, Value.cells, Program.keyLits, hr, hc8, h8, bv, bv_wf, h00]
/-- An index in memory that is not nil: its cells. -/
theorem xnone_any (X : Nat) (vs : List Value) (k : Int) (w : World) (h : Blk w X vs 79) (h1 : vs[1]? = some (.int .i64 k)) (hk : k ≠ 0) :
    Calls Tryz.prog 35 #[.pointer (some ⟨X, 0, none⟩)] w fun e w' => e = .returned (.bool false) ∧ w = w' := by
  have c1 := h.cell h1
  have hd : (k == 0) = false := by simpa using hk
  have hd2 : decide (k = 0) = false := by simpa using hk
  go_enter Tryz.func35, Tryz.ntmps35
  go_wp2
  go_ret
  exact ⟨rfl, rfl⟩
theorem xnew_any (w : World) :
    Calls Tryz.prog 13 #[.int .i64 3] w fun e w' => ∃ X m1 m2, e = .returned (.tuple #[.pointer (some ⟨X, 0, none⟩), .int .i64 0]) ∧ X ≠ m1 ∧ X ≠ m2 ∧ m1 ≠ m2 ∧ w.heap.size ≤ X ∧ w.heap.size ≤ m1 ∧ w.heap.size ≤ m2 ∧
      Blk w' X [.slice none 0 0, .int .i64 3, .map (some m1), .map (some m2), .slice none 0 0] 79 ∧ KMap kv w' m1 (fun _ => none) ∧ KMap kv w' m2 (fun _ => none) ∧ Below w.heap.size w w' := by
  have hmm := @run_makeMap Tryz.prog
  go_enter Tryz.func13, Tryz.ntmps13
  go_wp2
  go_ret2
  refine ⟨w.heap.size + 2, w.heap.size, w.heap.size + 1, rfl, by omega, by omega, by omega, by omega, by omega, by omega, ?_, ?_, ?_, ?_⟩
  · have := Blk.new ((w.alloc (.map #[] 0)).alloc (.map #[] 0)) [.slice none 0 0, .int .i64 3, .map (some w.heap.size), .map (some (w.heap.size + 1)), .slice none 0 0] 79
    rwa [show ((w.alloc (.map #[] 0)).alloc (.map #[] 0)).heap.size = w.heap.size + 2 from by simp] at this
  · exact ((KMap.new kv w).low (below_new _ _)).low (below_new _ _)
  · have := KMap.new kv (w.alloc (.map #[] 0))
    rw [show (w.alloc (.map #[] 0)).heap.size = w.heap.size + 1 from by simp] at this
    exact this.low (below_new _ _)
  · exact ((below_new w _).alloc (by simp) _).alloc (by simp; omega) _
set_option maxRecDepth 100000 in
set_option maxHeartbeats 400000 in
theorem xof_any (X : Nat) (vs : List Value) (bl off c : Nat) (K : Key3) (w : World) (h : Blk w X vs 79) (h1 : vs[1]? = some (.int .i64 3))
    (hb : bl < w.heap.size) (c0 : w.cell? ⟨bl, off, none⟩ = some (bv K.1)) (c1 : w.cell? ⟨bl, off + 1, none⟩ = some (bv K.2.1)) (c2 : w.cell? ⟨bl, off + 2, none⟩ = some (bv K.2.2)) :
    Calls Tryz.prog 36 #[.pointer (some ⟨X, 0, none⟩), .slice (some ⟨bl, off, none⟩) 3 c] w (RetV w (kv K)) := by
  have k1 := h.cell h1
  have hX := h.lt
  have hcp : ∃ w1, (Builtin.copy_ #[22, 22] 3 #[.slice (some ⟨w.heap.size, 0, none⟩) 3 8, .slice (some ⟨bl, off, none⟩) 3 c]).run Tryz.prog (w.alloc (.cells #[.int .u8 0, .int .u8 0, .int .u8 0, .int .u8 0, .int .u8 0, .int .u8 0, .int .u8 0, .int .u8 0] 82)) = .ok (.int .i64 3) w1 ∧
      Blk w1 w.heap.size [bv K.1, bv K.2.1, bv K.2.2, .int .u8 0, .int .u8 0, .int .u8 0, .int .u8 0, .int .u8 0] 82 ∧ Below w.heap.size w w1 := by
    have hnb := Blk.new w [.int .u8 0, .int .u8 0, .int .u8 0, .int .u8 0, .int .u8 0, .int .u8 0, .int .u8 0, .int .u8 0] 82
    refine ⟨_, run_copy_row (P := Tryz.prog) _ 22 22 3 5 w.heap.size 0 3 8 ⟨bl, off, none⟩ 3 c _ 82 [bv K.1, bv K.2.1, bv K.2.2] Tryz.underlying22 (by kernel_rfl) hnb rfl (fun j v hj => ?_) (by simp) (by simp [Value.oneCell', bv]), ?_, ?_⟩
    · rw [Go.WideShapes.add_plain]
      have e : ∀ q : Nat, (w.alloc (.cells #[.int .u8 0, .int .u8 0, .int .u8 0, .int .u8 0, .int .u8 0, .int .u8 0, .int .u8 0, .int .u8 0] 82)).cell? ⟨bl, off + q, none⟩ = w.cell? ⟨bl, off + q, none⟩ := fun q => (below_new w _).cell (p := ⟨bl, off + q, none⟩) hb
      rw [e]
      match j, hj with
      | 0, hj => cases hj; exact c0
      | 1, hj => cases hj; exact c1
      | 2, hj => cases hj; exact c2
      | j + 3, hj => simp at hj
    · exact setRow_heap _ _ _ _ _ _ hnb
    · exact below_setRow (below_new w _) (Nat.le_refl _) _
  obtain ⟨w1, hcp, hblk, hb1⟩ := hcp
  unfold bv at hblk
  have d0 := hblk.cell (k := 0) rfl
  have d1 := hblk.cell (k := 1) rfl
  have d2 := hblk.cell (k := 2) rfl
  have d3 := hblk.cell (k := 3) rfl
  have d4 := hblk.cell (k := 4) rfl
  have d5 := hblk.cell (k := 5) rfl
  have d6 := hblk.cell (k := 6) rfl
  have d7 := hblk.cell (k := 7) rfl
  have z0 := fun k => hblk.frozen k
  have HB1 := hid hb1
  have HBL := hid hblk
  clear hblk hb1 c0 c1 c2
  unfold bv at hcp
  go_enter Tryz.func36, Tryz.ntmps36
  go_wp2
  have hs := (((((((HBL.out.set 0 (bv K.1)).set 1 (bv K.2.1)).set 2 (bv K.2.2)).set 3 (bv 0)).set 4 (bv 0)).set 5 (bv 0)).set 6 (bv 0)).set 7 (bv 0)
  have hb9 := (((((((HB1.out.setCell (p := ⟨w.heap.size, 0, none⟩) (Nat.le_refl _) (bv K.1)).setCell (p := ⟨w.heap.size, 1, none⟩) (Nat.le_refl _) (bv K.2.1)).setCell (p := ⟨w.heap.size, 2, none⟩) (Nat.le_refl _) (bv K.2.2)).setCell (p := ⟨w.heap.size, 3, none⟩) (Nat.le_refl _) (bv 0)).setCell (p := ⟨w.heap.size, 4, none⟩) (Nat.le_refl _) (bv 0)).setCell (p := ⟨w.heap.size, 5, none⟩) (Nat.le_refl _) (bv 0)).setCell (p := ⟨w.heap.size, 6, none⟩) (Nat.le_refl _) (bv 0)).setCell (p := ⟨w.heap.size, 7, none⟩) (Nat.le_refl _) (bv 0)
  have e0 : bv 0 = .int .u8 0 := rfl
  rw [e0] at hs hb9
  unfold bv at hs hb9
  generalize ((((((((w1.setCell ⟨w.heap.size, 0, none⟩ (.int .u8 (K.1.toNat : Int))).setCell ⟨w.heap.size, 1, none⟩ (.int .u8 (K.2.1.toNat : Int))).setCell ⟨w.heap.size, 2, none⟩ (.int .u8 (K.2.2.toNat : Int))).setCell ⟨w.heap.size, 3, none⟩ (.int .u8 0)).setCell ⟨w.heap.size, 4, none⟩ (.int .u8 0)).setCell ⟨w.heap.size, 5, none⟩ (.int .u8 0)).setCell ⟨w.heap.size, 6, none⟩ (.int .u8 0)).setCell ⟨w.heap.size, 7, none⟩ (.int .u8 0)) = W9 at *
  have r0 := hs.cell (k := 0) rfl
  have r1 := hs.cell (k := 1) rfl
  have r2 := hs.cell (k := 2) rfl
  have r3 := hs.cell (k := 3) rfl
  have r4 := hs.cell (k := 4) rfl
  have r5 := hs.cell (k := 5) rfl
  have r6 := hs.cell (k := 6) rfl
  have r7 := hs.cell (k := 7) rfl
  refine bodyPost_ret (v := kv K) (by simp [results, Tryz.results36, go_sem, r0, r1, r2, r3, r4, r5, r6, r7, kv, bv]) rfl ⟨rfl, hb9⟩
theorem xfrom_any (p : Addr) (bl off n c k : Nat) (w : World) (h : w.cell? p = some (.slice (some ⟨bl, off, none⟩) n c)) (hm : k + 3 ≤ n) (hn : n ≤ c) :
    Calls Tryz.prog 37 #[.pointer (some p), .int .i64 k, .int .i64 ((k : Int) + 3)] w fun e w' => e = .returned (.slice (some ⟨bl, off + k, none⟩) 3 3) ∧ w = w' := by
  go_enter Tryz.func37, Tryz.ntmps37
  have hne : ¬ k + 3 = k := by omega
  go_wp2
  go_ret
  have e3 : k + 3 - k = 3 := by omega
  exact ⟨by simp only [e3]; rfl, rfl⟩
end Go.Proofs.YtlgablepckmogaaGreat
namespace Go.Port
open Go.RowKit
/-- The index while it grows: bytes bs, k positions entered. -/
structure IxR (B base X m1 m2 : Nat) (bs : List UInt8) (tix t8 ti : TypeId) (w : World) (k : Nat) (vb vp : Value) (wr : World) : Prop where
  ix : Blk wr X [vb, .int .i64 3, .map (some m1), .map (some m2), vp] tix
  rb : wr.ownsRow base t8 1 vb bs.length (bs.map bv)
  rp : wr.ownsRow base ti 1 vp k ((prevL bs k).map iv)
  last : KMap kv wr m1 (fun K => (hitsGo bs K k).head?.map fun p => (p : Int))
  cnt : ∃ F, KMap kv wr m2 F
  below : Below B w wr
  bse : base ≤ wr.heap.size
  oth : ∀ b, b < base → b ≠ X → b ≠ m1 → b ≠ m2 → wr.heap[b]? = w.heap[b]?
/-- The bounds of its blocks. -/
structure IxB (B base X m1 m2 : Nat) : Prop where
  hX : X < base
  h1 : m1 < base
  h2 : m2 < base
  hX1 : X ≠ m1
  hX2 : X ≠ m2
  h12 : m1 ≠ m2
  bX : B ≤ X
  b1 : B ≤ m1
  b2 : B ≤ m2
theorem IxR.low {B base X m1 m2 : Nat} {bs : List UInt8} {tix t8 ti : TypeId} {w : World} {k : Nat} {vb vp : Value} {wr wr' : World} (h : IxR B base X m1 m2 bs tix t8 ti w k vb vp wr) (hB : B ≤ base) (hb : Below wr.heap.size wr wr') : IxR B base X m1 m2 bs tix t8 ti w k vb vp wr' :=
  ⟨h.ix.below hb h.ix.lt, own_low h.rb hb, own_low h.rp hb, h.last.low hb, (let ⟨F, hF⟩ := h.cnt; ⟨F, hF.low hb⟩), h.below.trans (hb.mono (Nat.le_trans hB h.bse)), Nat.le_trans h.bse hb.size, fun b h1 h2 h3 h4 => (hb.block b (Nat.lt_of_lt_of_le h1 h.bse)).trans (h.oth b h1 h2 h3 h4)⟩
theorem own_far {w : World} {base sz n : Nat} {e : TypeId} {v : Value} {xs : List Value} (h : w.ownsRow base e sz v n xs) {a : Addr} (u : Value) (ha : a.block < base) : (w.setCell a u).ownsRow base e sz v n xs := by
  obtain ⟨h1, h2⟩ := h
  rcases h2 with h2 | ⟨g, cap, cur, hv, h3, h4, h5⟩
  · exact ⟨h1, .inl h2⟩
  · exact ⟨h1, .inr ⟨g, cap, cur, hv, h3, (Below.heap_setCell w a u g (by omega)).trans h4, h5⟩⟩
theorem IxR.drew {B base X m1 m2 : Nat} {bs : List UInt8} {tix t8 ti : TypeId} {w : World} {k : Nat} {vb vp : Value} {wr : World} (h : IxR B base X m1 m2 bs tix t8 ti w k vb vp wr) (q : Nat) : IxR B base X m1 m2 bs tix t8 ti w k vb vp (wr.drewN q) :=
  ⟨h.ix, h.rb, h.rp, h.last, h.cnt, below_drewN h.below q, h.bse, h.oth⟩
theorem hitsGo_upd (bs : List UInt8) (k : Nat) : upd (fun K => (hitsGo bs K k).head?.map fun p => (p : Int)) (key3 bs k) (k : Int) = fun K => (hitsGo bs K (k + 1)).head?.map fun p => (p : Int) := by
  funext K
  unfold upd
  rw [hitsGo]
  by_cases h : K = key3 bs k
  · rw [if_pos h, if_pos h.symm]
    rfl
  · rw [if_neg h, if_neg (fun e => h e.symm)]
theorem own_grownAt {w w' : World} {base sz n m : Nat} {e : TypeId} {v : Value} {xs : List Value} (h : w.ownsRow base e sz v n xs) (hg : w.grownBy w' (some m)) (hm : m < base) : w'.ownsRow base e sz v n xs := by
  obtain ⟨h1, h2⟩ := h
  rcases h2 with h2 | ⟨g, cap, cur, hv, h3, h4, h5⟩
  · exact ⟨h1, .inl h2⟩
  · exact ⟨h1, .inr ⟨g, cap, cur, hv, h3, (hg.block g (Array.getElem?_eq_some_iff.1 h4).1 (fun e => by cases e; omega)).trans h4, h5⟩⟩
theorem own_ne {w : World} {base sz n : Nat} {e : TypeId} {v : Value} {xs : List Value} (h : w.ownsRow base e sz v n xs) {m : Nat} (hm : m < base) : some m ≠ v.ownBlock := fun e' => by
  have := (h.lt m e'.symm).1
  omega
theorem own_neT {w : World} {base sz n q : Nat} {e t : TypeId} {v : Value} {xs vs : List Value} (h : w.ownsRow base e sz v n xs) (hb : Blk w q vs t) (ht : t ≠ e) : some q ≠ v.ownBlock := fun e' => by
  obtain ⟨h1, h2⟩ := h
  rcases h2 with ⟨rfl, _⟩ | ⟨g, cap, cur, rfl, h3, h4, h5⟩
  · cases e'
  · simp only [Value.ownBlock, Option.some.injEq] at e'
    subst e'
    have := (show _ = _ from hb).symm.trans h4
    simp only [Option.some.injEq, Obj.cells.injEq] at this
    exact ht this.2.1
theorem own_two {w w' : World} {base base' sz sz' n n' : Nat} {e e' : TypeId} {v v' : Value} {xs xs' : List Value} (h : w.ownsRow base e sz v n xs) (h' : w.ownsRow base' e' sz' v' n' xs') (ht : e ≠ e') (hg : w.grownBy w' v'.ownBlock) : w'.ownsRow base e sz v n xs := by
  obtain ⟨h1, h2⟩ := h
  rcases h2 with h2 | ⟨g, cap, cur, hv, h3, h4, h5⟩
  · exact ⟨h1, .inl h2⟩
  · have hb : Blk w g cur.toList e := by unfold Blk; simpa using h4
    exact ⟨h1, .inr ⟨g, cap, cur, hv, h3, (hg.block g (Array.getElem?_eq_some_iff.1 h4).1 (own_neT h' hb ht)).trans h4, h5⟩⟩
theorem blk_ne {w : World} {a b : Nat} {vs us : List Value} {t t' : TypeId} (h : Blk w a vs t) (h' : Blk w b us t') (ht : t ≠ t') : a ≠ b := fun e => by
  subst e
  have := (show _ = _ from h).symm.trans h'
  simp only [Option.some.injEq, Obj.cells.injEq] at this
  exact ht this.2.1
theorem kmap_ne {w : World} {a b : Nat} {vs : List Value} {t : TypeId} {F : Key3 → Option Int} (h : Blk w a vs t) (h' : KMap kv w b F) : a ≠ b := fun e => by
  subst e
  obtain ⟨es, clock, h1, _⟩ := h'
  have := (show _ = _ from h).symm.trans h1
  cases this
/-- A key's cells. -/
def kvl (K : Key3) : List Value := [bv K.1, bv K.2.1, bv K.2.2, bv 0, bv 0, bv 0, bv 0, bv 0]
end Go.Port
namespace Go.Proofs.YtlgablepckmogaaGreat
open Go.RowKit Go.Port
theorem Tryz.info_byte : (Tryz.prog.info? 5).map (fun i => (i.zero, i.size, i.bytes)) = some (some (.int .u8 0), 1, 1) := by kernel_rfl
theorem Tryz.info_int : (Tryz.prog.info? 3).map (fun i => (i.zero, i.size, i.bytes)) = some (some (.int .i64 0), 1, 8) := by kernel_rfl
theorem Tryz.zeroI : ∀ u : World, (zeroValue 3).run Tryz.prog u = .ok (.int .i64 0) u := fun _ => by kernel_rfl
set_option maxRecDepth 100000 in
set_option maxHeartbeats 4000000 in
theorem xadd_any (B X m1 m2 : Nat) (ab : Option Addr) (cb : Nat) (bs : List UInt8) (w : World) (hn : bs.length ≤ 1000000) (hnb : bs.length ≤ cb) (hab : ab = none → cb = 0) (hI : IxB B w.heap.size X m1 m2) (hB : B ≤ w.heap.size)
    (hX : Blk w X [.slice none 0 0, .int .i64 3, .map (some m1), .map (some m2), .slice none 0 0] 79) (hm1 : KMap kv w m1 (fun _ => none)) (hm2 : KMap kv w m2 (fun _ => none))
    (hc : ∀ j u, (bs.map bv)[j]? = some u → ∃ bl off, ab = some ⟨bl, off, none⟩ ∧ bl < w.heap.size ∧ w.cell? ⟨bl, off + j, none⟩ = some u) :
    Calls Tryz.prog 15 #[.pointer (some ⟨X, 0, none⟩), .slice ab bs.length cb] w fun e w' => e = .returned (.int .i64 0) ∧ ∃ vb vp, IxR B w.heap.size X m1 m2 bs 79 5 3 w (bs.length - 2) vb vp w' := by
  have HN := hid (xnone_any X _ 3 w hX rfl (by decide))
  have c0 := hX.cell (k := 0) rfl
  have c4 := hX.cell (k := 4) rfl
  have z0 := hX.frozen 0
  have hXlt := hX.lt
  have HX := hid hX
  have HM1 := hid hm1
  have HM2 := hid hm2
  have HC := hid hc
  have HI := hid hI
  clear hX hm1 hm2 hc hI
  go_enter Tryz.func15, Tryz.ntmps15
  go_wp2_with fail
  refine wp_scope_straight ?_
  go_wp2_with fail
  refine HN.out.mono ?_
  rintro e w' ⟨rfl, rfl⟩
  go_wp2_with (at_builtin; refine Hid.out ?_)
  refine hid ?_
  refine wpList_appendsK rfl _ _ 22 rfl 5 _ 1 1 Tryz.underlying22 Tryz.info_byte rfl (by decide) (by decide) w w.heap.size _ 0 bs.length cb ab [] (bs.map bv) (by simp) ?hu rfl rfl hnb hab (by exact HC.out) (by exact World.ownsRow_nil _ _ _ _) ?hn (Nat.le_refl _) ?hk
  case hu =>
    intro u hu
    obtain ⟨x, _, rfl⟩ := List.mem_map.1 hu
    rfl
  case hn => omega
  case hk =>
    intro v1 w1 hown1 hg1
    rw [List.nil_append, Nat.zero_add] at hown1
    have hB1 : Below w.heap.size w w1 := (Below.refl _ _).grown hg1 (Nat.le_refl _) (fun k hk => by cases hk)
    obtain ⟨av, cv, rfl⟩ := own_slice hown1
    have hX1 := HX.out.below hB1 HX.out.lt
    have c0 := hX1.cell (k := 0) rfl
    have c4 := hX1.cell (k := 4) rfl
    have z0 := hX1.frozen 0
    have hX1lt := hX1.lt
    have hS := hX1.set 0 (.slice av bs.length cv)
    have hR : IxR B w.heap.size X m1 m2 bs 79 5 3 w 0 (.slice av bs.length cv) (.slice none 0 0) (w1.setCell ⟨X, 0, none⟩ (.slice av bs.length cv)) := by
      refine ⟨hS, own_far hown1 _ HI.out.hX, World.ownsRow_nil _ _ _ _, ?_, ⟨_, (HM2.out.low hB1).set _ HI.out.hX2⟩, (hB1.mono hB).setCell (p := ⟨X, 0, none⟩) HI.out.bX _, ?_, fun b b1 b2 _ _ => (Below.heap_setCell w1 ⟨X, 0, none⟩ _ b b2).trans (hB1.block b b1)⟩
      · exact (HM1.out.low hB1).set _ HI.out.hX1
      · have := hB1.size
        simpa using this
    have HR := hid hR
    clear hR hS hown1 hg1 hB1 HM1 HM2 HX HC HN hX1
    go_wp2_with fail
    clear c0 c4 z0 hX1lt
    generalize w1.setCell ⟨X, 0, none⟩ (.slice av bs.length cv) = w2 at *
    go_loopg [5] bs.length (fun g t wr => ∃ (k : Nat) (vb vp : Value), k ≤ bs.length - 2 ∧ g + k = bs.length ∧ t = .int .i64 k ∧ IxR B w.heap.size X m1 m2 bs 79 5 3 w k vb vp wr)
    case atStart => exact ⟨0, _, _, Nat.zero_le _, rfl, rfl, HR.out⟩
    case round =>
      obtain ⟨k, vb, vp, hk, hgk, rfl, hR⟩ := hrel
      obtain ⟨avb, cvb, rfl⟩ := own_slice hR.rb
      obtain ⟨avp, cvp, rfl⟩ := own_slice hR.rp
      have c0 := hR.ix.cell (k := 0) rfl
      have c1 := hR.ix.cell (k := 1) rfl
      have c4 := hR.ix.cell (k := 4) rfl
      have HR2 := hid hR
      clear hR HR
      have hw3 : IntKind.i64.wrap ((k : Int) + 3) = (k : Int) + 3 := by rw [IntKind.wrap_i64]; omega
      by_cases hlt : k + 3 ≤ bs.length
      · have hd : decide ((k : Int) + 3 ≤ (bs.length : Int)) = true := decide_eq_true (by omega)
        go_wp2_with fail
        go_quiet (fail)
        clear hd
        go_wp2_with fail
        go_cut [6] (fun s wx => ∃ q, s = .pointer (some ⟨q, 0, none⟩) ∧ Blk wx q (kvl (key3 bs k)) 82 ∧ IxR B w.heap.size X m1 m2 bs 79 5 3 w k (.slice avb bs.length cvb) (.slice avp k cvp) wx)
        case first =>
          have HR3 := hid (HR2.out.drew nq)
          have HK := hid hlt
          clear HR2 c0 c1 c4 hgk
          generalize wr.drewN nq = W0 at *
          have hXlt := HR3.out.ix.lt
          have k0 := HR3.out.ix.cell (k := 0) rfl
          have k1 := HR3.out.ix.cell (k := 1) rfl
          obtain ⟨gb, capb, csb, hvb, hgb, hcapb, _, hblk, hcs⟩ := own_blk HR3.out.rb (by omega)
          cases hvb
          have hby : ∀ j, j < bs.length → W0.cell? ⟨gb, j, none⟩ = some (bv (bs.getD j 0)) := fun j hj => hblk.cell (by
            have h1 : (csb.take (bs.length * 1))[j]? = some (bv (bs.getD j 0)) := by
              rw [hcs, List.getElem?_map, List.getElem?_eq_getElem hj, List.getD_eq_getElem?_getD, List.getElem?_eq_getElem hj]
              rfl
            rwa [List.getElem?_take_of_lt (by omega)] at h1)
          have hgbl := hblk.lt
          have HF := hid (fun W (hW : Below W0.heap.size W0 W) => xfrom_any ⟨X, 0, none⟩ gb 0 bs.length cvb k W ((hW.cell (p := ⟨X, 0, none⟩) hXlt).trans k0) HK.out hcapb)
          have hkv := kv_eq (key3 bs k)
          have HO := hid (fun W (hW : Below W0.heap.size W0 W) => (show Calls Tryz.prog 36 #[.pointer (some ⟨X, 0, none⟩), .slice (some ⟨gb, k, none⟩) 3 3] W (RetV W (.agg #[.int .u8 ((key3 bs k).1.toNat : Int), .int .u8 ((key3 bs k).2.1.toNat : Int), .int .u8 ((key3 bs k).2.2.toNat : Int), .int .u8 0, .int .u8 0, .int .u8 0, .int .u8 0, .int .u8 0])) from by
            rw [← hkv]
            exact xof_any X _ gb k 3 (key3 bs k) W (HR3.out.ix.below hW hXlt) rfl (Nat.lt_of_lt_of_le hgbl hW.size) ((hW.cell (p := ⟨gb, k, none⟩) hgbl).trans (hby k (by omega))) ((hW.cell (p := ⟨gb, k + 1, none⟩) hgbl).trans (hby (k + 1) (by omega))) ((hW.cell (p := ⟨gb, k + 2, none⟩) hgbl).trans (hby (k + 2) (by omega)))))
          have HRl := hid (fun wf (hf : Below W0.heap.size W0 wf) => HR3.out.low hB hf)
          clear hblk hcs hby k0 hlt hkv
          refine wp_region_noPanic ?_
          have hB0 : Below W0.heap.size W0 W0.drew := (Below.refl _ _).drew
          refine wp_region_held_drew (S := fun W => Below W0.heap.size W0 W) (by kernel_rfl) hB0 (fun hHeld => ?_)
          refine wpAnyH_take (i := 0) (v := .pointer (some ⟨X, 0, none⟩)) (by simp only [List.getElem?_toArray, List.getElem?_cons_zero]; rfl) (by kernel_rfl) (by kernel_rfl) (by kernel_rfl) (fun _ _ _ h => h) (Or.inl ⟨by rfl, fun W hSw => ?_⟩) (by assumption) ?_
          · clear hSw
            go_simp
          simp only [Act.put, List.setIfInBounds_toArray, List.set_cons_zero, List.set_cons_succ]
          refine wpAnyH_take (i := 1) (v := .pointer (some ⟨X, 0, none⟩)) (by simp only [List.getElem?_toArray, List.getElem?_cons_zero, List.getElem?_cons_succ]; rfl) (by kernel_rfl) (by kernel_rfl) (by kernel_rfl) (fun _ _ _ h => h) (Or.inl ⟨by rfl, fun W hSw => ?_⟩) (by assumption) ?_
          · clear hSw
            go_simp
          simp only [Act.put, List.setIfInBounds_toArray, List.set_cons_zero, List.set_cons_succ]
          refine wpAnyH_take (i := 2) (v := .pointer (some ⟨X, 0, none⟩)) (by simp only [List.getElem?_toArray, List.getElem?_cons_zero, List.getElem?_cons_succ]; rfl) (by kernel_rfl) (by kernel_rfl) (by kernel_rfl) (fun _ _ _ h => h) (Or.inl ⟨by rfl, fun W hSw => ?_⟩) (by assumption) ?_
          · clear hSw
            go_simp
          simp only [Act.put, List.setIfInBounds_toArray, List.set_cons_zero, List.set_cons_succ]
          refine wpAnyH_take (i := 3) (v := .pointer (some ⟨X, 0, none⟩)) (by simp only [List.getElem?_toArray, List.getElem?_cons_zero, List.getElem?_cons_succ]; rfl) (by kernel_rfl) (by kernel_rfl) (by kernel_rfl) (fun _ _ _ h => h) (Or.inl ⟨by rfl, fun W hSw => ?_⟩) (by assumption) ?_
          · clear hSw
            go_simp
          simp only [Act.put, List.setIfInBounds_toArray, List.set_cons_zero, List.set_cons_succ]
          refine wpAnyH_take (i := 4) (v := .int .i64 (k : Int)) (by simp only [List.getElem?_toArray, List.getElem?_cons_zero, List.getElem?_cons_succ]; rfl) (by kernel_rfl) (by kernel_rfl) (by kernel_rfl) (fun _ _ _ h => h) (Or.inl ⟨by rfl, fun W hSw => ?_⟩) (by assumption) ?_
          · clear hSw
            go_simp
          simp only [Act.put, List.setIfInBounds_toArray, List.set_cons_zero, List.set_cons_succ]
          refine wpAnyH_take (i := 5) (v := .int .i64 (k : Int)) (by simp only [List.getElem?_toArray, List.getElem?_cons_zero, List.getElem?_cons_succ]; rfl) (by kernel_rfl) (by kernel_rfl) (by kernel_rfl) (fun _ _ _ h => h) (Or.inl ⟨by rfl, fun W hSw => ?_⟩) (by assumption) ?_
          · clear hSw
            go_simp
          simp only [Act.put, List.setIfInBounds_toArray, List.set_cons_zero, List.set_cons_succ]
          refine wpAnyH_take (i := 6) (v := .pointer (some ⟨X, 0, none⟩)) (by simp only [List.getElem?_toArray, List.getElem?_cons_zero, List.getElem?_cons_succ]; rfl) (by kernel_rfl) (by kernel_rfl) (by kernel_rfl) (fun _ _ _ h => h) (Or.inl ⟨by rfl, fun W hSw => ?_⟩) (by assumption) ?_
          · clear hSw
            go_simp
          simp only [Act.put, List.setIfInBounds_toArray, List.set_cons_zero, List.set_cons_succ]
          refine wpAnyH_take (i := 7) (v := .pointer (some ⟨X, 0, none⟩)) (by simp only [List.getElem?_toArray, List.getElem?_cons_zero, List.getElem?_cons_succ]; rfl) (by kernel_rfl) (by kernel_rfl) (by kernel_rfl) (fun _ _ _ h => h) (Or.inl ⟨by rfl, fun W hSw => ?_⟩) (by assumption) ?_
          · clear hSw
            go_simp
          simp only [Act.put, List.setIfInBounds_toArray, List.set_cons_zero, List.set_cons_succ]
          refine wpAnyH_take (i := 8) (v := .pointer (some ⟨X, 1, none⟩)) (by simp only [List.getElem?_toArray, List.getElem?_cons_zero, List.getElem?_cons_succ]; rfl) (by kernel_rfl) (by kernel_rfl) (by kernel_rfl) (fun _ _ _ h => h) (Or.inl ⟨by rfl, fun W hSw => ?_⟩) (by assumption) ?_
          · clear hSw
            go_simp
          simp only [Act.put, List.setIfInBounds_toArray, List.set_cons_zero, List.set_cons_succ]
          refine wpAnyH_take (i := 9) (v := .int .i64 3) (by simp only [List.getElem?_toArray, List.getElem?_cons_zero, List.getElem?_cons_succ]; rfl) (by kernel_rfl) (by kernel_rfl) (by kernel_rfl) (fun _ _ _ h => h) (Or.inl ⟨by rfl, fun W hSw => ?_⟩) (by assumption) ?_
          · have hcw := (Below.cell (p := ⟨X, 1, none⟩) hSw hXlt).trans k1
            go_simp
          simp only [Act.put, List.setIfInBounds_toArray, List.set_cons_zero, List.set_cons_succ]
          refine wpAnyH_take (i := 10) (v := .int .i64 ((k : Int) + 3)) (by simp only [List.getElem?_toArray, List.getElem?_cons_zero, List.getElem?_cons_succ]; rfl) (by kernel_rfl) (by kernel_rfl) (by kernel_rfl) (fun _ _ _ h => h) (Or.inl ⟨by rfl, fun W hSw => ?_⟩) (by assumption) ?_
          · clear hSw
            go_simp
          simp only [Act.put, List.setIfInBounds_toArray, List.set_cons_zero, List.set_cons_succ]
          refine wpAnyH_ready (rs := [11, 13]) (by kernel_rfl) (by simp) ?_
          refine AllReadyH.cons (by simp only [List.getElem?_toArray, List.getElem?_cons_zero, List.getElem?_cons_succ]; rfl) (fun K hK => ?_) (AllReadyH.cons (by simp only [List.getElem?_toArray, List.getElem?_cons_zero, List.getElem?_cons_succ]; rfl) (fun K hK => ?_) AllReadyH.nil)
          · rw [if_pos (by rfl)]
            go_simp
            go_at_call 37
            refine (HF.out _ hB0).mono ?_
            rintro e w' ⟨rfl, rfl⟩
            dsimp only
            refine hK.out _ _ hB0 (fun _ => ?_)
            clear hK K
            refine wpAnyH_ready (rs := [12, 13]) (by kernel_rfl) (by simp) ?_
            refine AllReadyH.cons (by simp only [List.getElem?_toArray, List.getElem?_cons_zero, List.getElem?_cons_succ]; rfl) (fun K hK => ?_) (AllReadyH.cons (by simp only [List.getElem?_toArray, List.getElem?_cons_zero, List.getElem?_cons_succ]; rfl) (fun K hK => ?_) AllReadyH.nil)
            · rw [if_pos (by rfl)]
              go_simp
              go_at_call 36
              refine (HO.out _ hB0).mono ?_
              rintro e w5 ⟨rfl, hb5⟩
              dsimp only
              have hB5 := hB0.trans (hb5.mono hB0.size)
              refine hK.out _ _ hB5 (fun _ => ?_)
              clear hK K
              refine wpAnyH_ready (rs := [13]) (by kernel_rfl) (by simp) ?_
              refine AllReadyH.cons (by simp only [List.getElem?_toArray, List.getElem?_cons_zero, List.getElem?_cons_succ]; rfl) (fun K hK => ?_) AllReadyH.nil
              rw [if_pos (by rfl)]
              go_simp
              have hB6 := hB5.alloc hB5.size (.cells #[.int .u8 0, .int .u8 0, .int .u8 0, .int .u8 0, .int .u8 0, .int .u8 0, .int .u8 0, .int .u8 0] 82)
              refine hK.out _ _ hB6 (fun _ => ?_)
              clear hK K
              refine wpAnyH_ready (rs := [14]) (by kernel_rfl) (by simp) ?_
              refine AllReadyH.cons (by simp only [List.getElem?_toArray, List.getElem?_cons_zero, List.getElem?_cons_succ]; rfl) (fun K hK => ?_) AllReadyH.nil
              rw [if_pos (by rfl)]
              go_simp
              have hB7 := hB5.alloc hB5.size (.cells #[.int .u8 ((key3 bs k).1.toNat : Int), .int .u8 ((key3 bs k).2.1.toNat : Int), .int .u8 ((key3 bs k).2.2.toNat : Int), .int .u8 0, .int .u8 0, .int .u8 0, .int .u8 0, .int .u8 0] 82)
              have hbl := Blk.new w5 [.int .u8 ((key3 bs k).1.toNat : Int), .int .u8 ((key3 bs k).2.1.toNat : Int), .int .u8 ((key3 bs k).2.2.toNat : Int), .int .u8 0, .int .u8 0, .int .u8 0, .int .u8 0, .int .u8 0] 82
              refine hK.out _ _ hB7 (fun _ => ?_)
              clear hK K
              refine wpAnyH_done (by kernel_rfl) ?_ _
              refine NoPanic.normal ?_
              go_wp2
              go_meet
              exact ⟨_, rfl, hbl, HRl.out _ hB7⟩
            · rw [if_pos (by rfl)]
              go_simp
              have hB5 := hB0.alloc hB0.size (.cells #[.int .u8 0, .int .u8 0, .int .u8 0, .int .u8 0, .int .u8 0, .int .u8 0, .int .u8 0, .int .u8 0] 82)
              refine hK.out _ _ hB5 (fun _ => ?_)
              clear hK K
              refine wpAnyH_ready (rs := [12]) (by kernel_rfl) (by simp) ?_
              refine AllReadyH.cons (by simp only [List.getElem?_toArray, List.getElem?_cons_zero, List.getElem?_cons_succ]; rfl) (fun K hK => ?_) AllReadyH.nil
              rw [if_pos (by rfl)]
              go_simp
              go_at_call 36
              refine (HO.out _ hB5).mono ?_
              rintro e w5 ⟨rfl, hb5⟩
              dsimp only
              have hB6 := hB5.trans (hb5.mono hB5.size)
              refine hK.out _ _ hB6 (fun _ => ?_)
              clear hK K
              have hbl : Blk w5 W0.heap.size [.int .u8 0, .int .u8 0, .int .u8 0, .int .u8 0, .int .u8 0, .int .u8 0, .int .u8 0, .int .u8 0] 82 := (Blk.new W0.drew [.int .u8 0, .int .u8 0, .int .u8 0, .int .u8 0, .int .u8 0, .int .u8 0, .int .u8 0, .int .u8 0] 82).below hb5 (by simp)
              have d0 := hbl.cell (k := 0) rfl
              have d1 := hbl.cell (k := 1) rfl
              have d2 := hbl.cell (k := 2) rfl
              have d3 := hbl.cell (k := 3) rfl
              have d4 := hbl.cell (k := 4) rfl
              have d5 := hbl.cell (k := 5) rfl
              have d6 := hbl.cell (k := 6) rfl
              have d7 := hbl.cell (k := 7) rfl
              have dz := fun k => hbl.frozen k
              have HBl := hid hbl
              clear hbl hb5
              refine wpAnyH_ready (rs := [14]) (by kernel_rfl) (by simp) ?_
              refine AllReadyH.cons (by simp only [List.getElem?_toArray, List.getElem?_cons_zero, List.getElem?_cons_succ]; rfl) (fun K hK => ?_) AllReadyH.nil
              rw [if_pos (by rfl)]
              go_simp
              have hB7 := ((((((((hB6.setCell (p := ⟨W0.heap.size, 0, none⟩) (Nat.le_refl _) (.int .u8 ((key3 bs k).1.toNat : Int))).setCell (p := ⟨W0.heap.size, 1, none⟩) (Nat.le_refl _) (.int .u8 ((key3 bs k).2.1.toNat : Int))).setCell (p := ⟨W0.heap.size, 2, none⟩) (Nat.le_refl _) (.int .u8 ((key3 bs k).2.2.toNat : Int))).setCell (p := ⟨W0.heap.size, 3, none⟩) (Nat.le_refl _) (.int .u8 0)).setCell (p := ⟨W0.heap.size, 4, none⟩) (Nat.le_refl _) (.int .u8 0)).setCell (p := ⟨W0.heap.size, 5, none⟩) (Nat.le_refl _) (.int .u8 0)).setCell (p := ⟨W0.heap.size, 6, none⟩) (Nat.le_refl _) (.int .u8 0)).setCell (p := ⟨W0.heap.size, 7, none⟩) (Nat.le_refl _) (.int .u8 0))
              have hbl := ((((((((HBl.out.set 0 (.int .u8 ((key3 bs k).1.toNat : Int))).set 1 (.int .u8 ((key3 bs k).2.1.toNat : Int))).set 2 (.int .u8 ((key3 bs k).2.2.toNat : Int))).set 3 (.int .u8 0)).set 4 (.int .u8 0)).set 5 (.int .u8 0)).set 6 (.int .u8 0)).set 7 (.int .u8 0))
              refine hK.out _ _ hB7 (fun _ => ?_)
              clear hK K
              refine wpAnyH_done (by kernel_rfl) ?_ _
              refine NoPanic.normal ?_
              go_wp2
              go_meet
              exact ⟨_, rfl, hbl, HRl.out _ hB7⟩
          · rw [if_pos (by rfl)]
            go_simp
            have hB5 := hB0.alloc hB0.size (.cells #[.int .u8 0, .int .u8 0, .int .u8 0, .int .u8 0, .int .u8 0, .int .u8 0, .int .u8 0, .int .u8 0] 82)
            refine hK.out _ _ hB5 (fun _ => ?_)
            clear hK K
            refine wpAnyH_ready (rs := [11]) (by kernel_rfl) (by simp) ?_
            refine AllReadyH.cons (by simp only [List.getElem?_toArray, List.getElem?_cons_zero, List.getElem?_cons_succ]; rfl) (fun K hK => ?_) AllReadyH.nil
            rw [if_pos (by rfl)]
            go_simp
            go_at_call 37
            refine (HF.out _ hB5).mono ?_
            rintro e w' ⟨rfl, rfl⟩
            dsimp only
            refine hK.out _ _ hB5 (fun _ => ?_)
            clear hK K
            refine wpAnyH_ready (rs := [12]) (by kernel_rfl) (by simp) ?_
            refine AllReadyH.cons (by simp only [List.getElem?_toArray, List.getElem?_cons_zero, List.getElem?_cons_succ]; rfl) (fun K hK => ?_) AllReadyH.nil
            rw [if_pos (by rfl)]
            go_simp
            go_at_call 36
            refine (HO.out _ hB5).mono ?_
            rintro e w5 ⟨rfl, hb5⟩
            dsimp only
            have hB6 := hB5.trans (hb5.mono hB5.size)
            refine hK.out _ _ hB6 (fun _ => ?_)
            clear hK K
            have hbl : Blk w5 W0.heap.size [.int .u8 0, .int .u8 0, .int .u8 0, .int .u8 0, .int .u8 0, .int .u8 0, .int .u8 0, .int .u8 0] 82 := (Blk.new W0.drew [.int .u8 0, .int .u8 0, .int .u8 0, .int .u8 0, .int .u8 0, .int .u8 0, .int .u8 0, .int .u8 0] 82).below hb5 (by simp)
            have d0 := hbl.cell (k := 0) rfl
            have d1 := hbl.cell (k := 1) rfl
            have d2 := hbl.cell (k := 2) rfl
            have d3 := hbl.cell (k := 3) rfl
            have d4 := hbl.cell (k := 4) rfl
            have d5 := hbl.cell (k := 5) rfl
            have d6 := hbl.cell (k := 6) rfl
            have d7 := hbl.cell (k := 7) rfl
            have dz := fun k => hbl.frozen k
            have HBl := hid hbl
            clear hbl hb5
            refine wpAnyH_ready (rs := [14]) (by kernel_rfl) (by simp) ?_
            refine AllReadyH.cons (by simp only [List.getElem?_toArray, List.getElem?_cons_zero, List.getElem?_cons_succ]; rfl) (fun K hK => ?_) AllReadyH.nil
            rw [if_pos (by rfl)]
            go_simp
            have hB7 := ((((((((hB6.setCell (p := ⟨W0.heap.size, 0, none⟩) (Nat.le_refl _) (.int .u8 ((key3 bs k).1.toNat : Int))).setCell (p := ⟨W0.heap.size, 1, none⟩) (Nat.le_refl _) (.int .u8 ((key3 bs k).2.1.toNat : Int))).setCell (p := ⟨W0.heap.size, 2, none⟩) (Nat.le_refl _) (.int .u8 ((key3 bs k).2.2.toNat : Int))).setCell (p := ⟨W0.heap.size, 3, none⟩) (Nat.le_refl _) (.int .u8 0)).setCell (p := ⟨W0.heap.size, 4, none⟩) (Nat.le_refl _) (.int .u8 0)).setCell (p := ⟨W0.heap.size, 5, none⟩) (Nat.le_refl _) (.int .u8 0)).setCell (p := ⟨W0.heap.size, 6, none⟩) (Nat.le_refl _) (.int .u8 0)).setCell (p := ⟨W0.heap.size, 7, none⟩) (Nat.le_refl _) (.int .u8 0))
            have hbl := ((((((((HBl.out.set 0 (.int .u8 ((key3 bs k).1.toNat : Int))).set 1 (.int .u8 ((key3 bs k).2.1.toNat : Int))).set 2 (.int .u8 ((key3 bs k).2.2.toNat : Int))).set 3 (.int .u8 0)).set 4 (.int .u8 0)).set 5 (.int .u8 0)).set 6 (.int .u8 0)).set 7 (.int .u8 0))
            refine hK.out _ _ hB7 (fun _ => ?_)
            clear hK K
            refine wpAnyH_done (by kernel_rfl) ?_ _
            refine NoPanic.normal ?_
            go_wp2
            go_meet
            exact ⟨_, rfl, hbl, HRl.out _ hB7⟩
        case rest =>
          obtain ⟨q, rfl, hq, hR⟩ := hcut
          have hkl : kvl (key3 bs k) = [.int .u8 ((key3 bs k).1.toNat : Int), .int .u8 ((key3 bs k).2.1.toNat : Int), .int .u8 ((key3 bs k).2.2.toNat : Int), .int .u8 0, .int .u8 0, .int .u8 0, .int .u8 0, .int .u8 0] := by
            unfold kvl bv
            rfl
          rw [hkl] at hq
          have hkv := kv_eq (key3 bs k)
          have hlk : ∃ (pv : Int) (is : Bool), (fun n => (Instr.lookup 74 (.map (some m1)) (.agg #[.int .u8 ((key3 bs k).1.toNat : Int), .int .u8 ((key3 bs k).2.1.toNat : Int), .int .u8 ((key3 bs k).2.2.toNat : Int), .int .u8 0, .int .u8 0, .int .u8 0, .int .u8 0, .int .u8 0]) true).run Tryz.prog (wc.drewN n)) = (fun n => .ok (.tuple #[.int .i64 pv, .bool is]) (wc.drewN n)) ∧ (if is then pv else -1) = prevI bs k ∧ -1 ≤ pv ∧ pv ≤ 1000000 := by
            have h1 := fun n => KMap.look (w := wc.drewN n) hR.last Tryz.keyLaw Tryz.underlying74 Tryz.zeroI Tryz.keyed kv_inj (key3 bs k) true
            refine ⟨_, _, funext fun n => by rw [← hkv]; exact h1 n, ?_, ?_⟩
            · unfold prevI hits
              cases (hitsGo bs (key3 bs k) k).head? <;> rfl
            · cases hh : (hitsGo bs (key3 bs k) k).head? with
              | none => simp
              | some p =>
                have := (hitsGo_lt bs _ k p (List.mem_of_mem_head? hh)).1
                simp
                omega
          obtain ⟨pv, is, hlk, hpv, hpv1, hpv2⟩ := hlk
          have HPv := hid hpv
          have hlk := fun n => congrFun hlk n
          have q0 := hq.cell (k := 0) rfl
          have q1 := hq.cell (k := 1) rfl
          have q2 := hq.cell (k := 2) rfl
          have q3 := hq.cell (k := 3) rfl
          have q4 := hq.cell (k := 4) rfl
          have q5 := hq.cell (k := 5) rfl
          have q6 := hq.cell (k := 6) rfl
          have q7 := hq.cell (k := 7) rfl
          have k2 := hR.ix.cell (k := 2) rfl
          have HQ := hid hq
          have HR4 := hid hR
          have HK := hid hlt
          clear hq hR HR2 c0 c1 c4 hpv hkl hkv hlt
          go_wp2_with fail
          go_quiet (fail)
          have HR5 := hid (HR4.out.drew nq)
          have HQ5 := hid (show Blk (wc.drewN nq) q _ 82 from HQ.out)
          clear HR4 HQ hlk q0 q1 q2 q3 q4 q5 q6 q7 k2
          generalize wc.drewN nq = W8 at *
          go_upto_if 65 with (fail)
          go_cut [7] (fun s wx => s = .int .i64 (prevI bs k) ∧ wx = W8)
          case first =>
            cases is with
            | true =>
              go_wp2_with fail
              go_meet
              exact ⟨by rw [← HPv.out]; rfl, rfl⟩
            | false =>
              go_wp2_with fail
              go_meet
              exact ⟨by rw [← HPv.out]; rfl, rfl⟩
          case rest =>
            obtain ⟨rfl, rfl⟩ := hcut
            have hpb := prevI_bound bs k
            have k4 := HR5.out.ix.cell (k := 4) rfl
            have hXlt := HR5.out.ix.lt
            clear HPv
            generalize hpk : prevI bs k = pk at *
            have HPK := hid hpk
            clear hpk
            go_wp2_with (at_builtin; refine Hid.out ?_)
            refine hid ?_
            refine wpList_append1 rfl _ _ 77 rfl 3 _ 1 8 Tryz.underlying77 Tryz.info_int rfl (by decide) (by decide) _ w.heap.size _ _ _ [.int .i64 pk] rfl ?hu rfl rfl (by exact HR5.out.rp) ?hn HR5.out.bse ?hk
            case hu => simp [Value.oneCell']
            case hn => have := HK.out; omega
            case hk =>
              intro v' w3 hown' hg
              obtain ⟨av', cv', rfl⟩ := own_slice hown'
              have hxg := HR5.out.ix.grown hg (own_ne HR5.out.rp HI.out.hX)
              have hqg := HQ5.out.grown hg (own_neT HR5.out.rp HQ5.out (by decide))
              have hqX := blk_ne HQ5.out HR5.out.ix (by decide)
              have hrb := own_far (own_two HR5.out.rb HR5.out.rp (by decide) hg) (a := ⟨X, 4, none⟩) (.slice av' (k + 1) cv') HI.out.hX
              have hrp := own_far hown' (a := ⟨X, 4, none⟩) (.slice av' (k + 1) cv') HI.out.hX
              have hla := (HR5.out.last.grown hg (own_ne HR5.out.rp HI.out.h1)).set (a := ⟨X, 4, none⟩) (.slice av' (k + 1) cv') HI.out.hX1
              have hcn : ∃ F, KMap kv (w3.setCell ⟨X, 4, none⟩ (.slice av' (k + 1) cv')) m2 F := by
                obtain ⟨F, hF⟩ := HR5.out.cnt
                exact ⟨F, (hF.grown hg (own_ne HR5.out.rp HI.out.h2)).set (a := ⟨X, 4, none⟩) _ HI.out.hX2⟩
              have hbe : Below B w w3 := HR5.out.below.grown hg (Nat.le_trans hB HR5.out.bse) (fun m hm => Nat.le_trans hB (HR5.out.rp.lt m hm).1)
              have hbe2 := hbe.setCell (p := ⟨X, 4, none⟩) HI.out.bX (.slice av' (k + 1) cv')
              have hbs : w.heap.size ≤ (w3.setCell ⟨X, 4, none⟩ (.slice av' (k + 1) cv')).heap.size := by
                have := hg.size
                have := HR5.out.bse
                simp
                omega
              have hot : ∀ b, b < w.heap.size → b ≠ X → b ≠ m1 → b ≠ m2 → (w3.setCell ⟨X, 4, none⟩ (.slice av' (k + 1) cv')).heap[b]? = w.heap[b]? := fun b b1 b2 b3 b4 =>
                (Below.heap_setCell w3 ⟨X, 4, none⟩ _ b b2).trans ((hg.block b (Nat.lt_of_lt_of_le b1 HR5.out.bse) (own_ne HR5.out.rp b1)).trans (HR5.out.oth b b1 b2 b3 b4))
              have hxs := hxg.set 4 (.slice av' (k + 1) cv')
              have hqs := hqg.other (a := ⟨X, 4, none⟩) (.slice av' (k + 1) cv') (Ne.symm hqX)
              have HP11 := hid (And.intro hxs (And.intro hrb (And.intro hrp (And.intro hla (And.intro hcn (And.intro hbe2 (And.intro hbs (And.intro hqs hot))))))))
              have x4 := hxg.cell (k := 4) rfl
              have x4z := hxg.frozen 4
              clear hot hxs hqs hbs hbe2 hbe hcn hla hrp hrb hqX hqg hxg hown' hg k4 HR5 HQ5
              go_wp2_with fail
              generalize w3.setCell ⟨X, 4, none⟩ (.slice av' (k + 1) cv') = W11 at *
              obtain ⟨hix, hrb, hrp, hla, hcn, hbe, hbs, hqs, hot⟩ := HP11.out
              have hkv := kv_eq (key3 bs k)
              obtain ⟨W12, hrun, hm12, hg12⟩ := KMap.store (w := W11.drew) hla Tryz.keyLaw Tryz.underlying74 Tryz.keyed kv_inj (key3 bs k) (k : Int)
              rw [hkv] at hrun
              rw [hitsGo_upd] at hm12
              have hix12 : Blk W12 X _ 79 := Blk.grown (w := W11.drew) hix hg12 (fun e => by cases e; exact HI.out.hX1 rfl)
              have hq12 : Blk W12 q _ 82 := Blk.grown (w := W11.drew) hqs hg12 (fun e => by cases e; exact kmap_ne hqs hla rfl)
              have hrb12 := own_grownAt (w := W11.drew) hrb hg12 HI.out.h1
              have hrp12 := own_grownAt (w := W11.drew) hrp hg12 HI.out.h1
              have hcn12 : ∃ F, KMap kv W12 m2 F := by
                obtain ⟨F, hF⟩ := hcn
                exact ⟨F, KMap.grown (w := W11.drew) hF hg12 (fun e => by cases e; exact HI.out.h12 rfl)⟩
              have hbe12 : Below B w W12 := (show Below B w W11.drew from hbe.drew).grown hg12 (show B ≤ W11.heap.size from Nat.le_trans hB hbs) (fun m hm => by cases hm; exact HI.out.b1)
              have hbs12 : w.heap.size ≤ W12.heap.size := Nat.le_trans hbs hg12.size
              have hot12 : ∀ b, b < w.heap.size → b ≠ X → b ≠ m1 → b ≠ m2 → W12.heap[b]? = w.heap[b]? := fun b b1 b2 b3 b4 => (hg12.block b (Nat.lt_of_lt_of_le b1 hbs) (fun e => by cases e; exact b3 rfl)).trans (hot b b1 b2 b3 b4)
              have HP12 := hid (And.intro hix12 (And.intro hrb12 (And.intro hrp12 (And.intro hm12 (And.intro hcn12 (And.intro hbe12 (And.intro hbs12 (And.intro hq12 hot12))))))))
              refine wp_region_noPanic ?_
              have hS0 : Blk W11.drew X [.slice avb bs.length cvb, .int .i64 3, .map (some m1), .map (some m2), .slice av' (k + 1) cv'] 79 ∧ Blk W11.drew q [.int .u8 ((key3 bs k).1.toNat : Int), .int .u8 ((key3 bs k).2.1.toNat : Int), .int .u8 ((key3 bs k).2.2.toNat : Int), .int .u8 0, .int .u8 0, .int .u8 0, .int .u8 0, .int .u8 0] 82 ∧ True := ⟨hix, hqs, trivial⟩
              have hS1 : Blk W12 X [.slice avb bs.length cvb, .int .i64 3, .map (some m1), .map (some m2), .slice av' (k + 1) cv'] 79 ∧ Blk W12 q [.int .u8 ((key3 bs k).1.toNat : Int), .int .u8 ((key3 bs k).2.1.toNat : Int), .int .u8 ((key3 bs k).2.2.toNat : Int), .int .u8 0, .int .u8 0, .int .u8 0, .int .u8 0, .int .u8 0] 82 ∧ True := ⟨hix12, hq12, trivial⟩
              clear hot hot12 hix12 hq12 hrb12 hrp12 hm12 hcn12 hbe12 hbs12 hix hrb hrp hla hcn hbe hbs hqs hkv HP11 hg12
              refine wp_region_held_drew (S := fun W => Blk W X [.slice avb bs.length cvb, .int .i64 3, .map (some m1), .map (some m2), .slice av' (k + 1) cv'] 79 ∧ Blk W q [.int .u8 ((key3 bs k).1.toNat : Int), .int .u8 ((key3 bs k).2.1.toNat : Int), .int .u8 ((key3 bs k).2.2.toNat : Int), .int .u8 0, .int .u8 0, .int .u8 0, .int .u8 0, .int .u8 0] 82 ∧ True) (by kernel_rfl) hS0 (fun hHeld => ?_)
              refine wpAnyH_take (i := 0) (v := .pointer (some ⟨X, 0, none⟩)) (by simp only [List.getElem?_toArray, List.getElem?_cons_zero]; rfl) (by kernel_rfl) (by kernel_rfl) (by kernel_rfl) (fun _ _ _ h => h) (Or.inl ⟨by rfl, fun W hSw => ?_⟩) (by assumption) ?_
              · clear hSw
                go_simp
              simp only [Act.put, List.setIfInBounds_toArray, List.set_cons_zero, List.set_cons_succ]
              refine wpAnyH_take (i := 1) (v := .pointer (some ⟨X, 0, none⟩)) (by simp only [List.getElem?_toArray, List.getElem?_cons_zero, List.getElem?_cons_succ]; rfl) (by kernel_rfl) (by kernel_rfl) (by kernel_rfl) (fun _ _ _ h => h) (Or.inl ⟨by rfl, fun W hSw => ?_⟩) (by assumption) ?_
              · clear hSw
                go_simp
              simp only [Act.put, List.setIfInBounds_toArray, List.set_cons_zero, List.set_cons_succ]
              refine wpAnyH_take (i := 2) (v := .pointer (some ⟨X, 2, none⟩)) (by simp only [List.getElem?_toArray, List.getElem?_cons_zero, List.getElem?_cons_succ]; rfl) (by kernel_rfl) (by kernel_rfl) (by kernel_rfl) (fun _ _ _ h => h) (Or.inl ⟨by rfl, fun W hSw => ?_⟩) (by assumption) ?_
              · clear hSw
                go_simp
              simp only [Act.put, List.setIfInBounds_toArray, List.set_cons_zero, List.set_cons_succ]
              refine wpAnyH_take (i := 3) (v := .map (some m1)) (by simp only [List.getElem?_toArray, List.getElem?_cons_zero, List.getElem?_cons_succ]; rfl) (by kernel_rfl) (by kernel_rfl) (by kernel_rfl) (fun _ _ _ h => h) (Or.inl ⟨by rfl, fun W hSw => ?_⟩) (by assumption) ?_
              · have hcw := hSw.1.cell (k := 2) rfl
                go_simp
              simp only [Act.put, List.setIfInBounds_toArray, List.set_cons_zero, List.set_cons_succ]
              refine wpAnyH_take (i := 4) (v := .agg #[.int .u8 ((key3 bs k).1.toNat : Int), .int .u8 ((key3 bs k).2.1.toNat : Int), .int .u8 ((key3 bs k).2.2.toNat : Int), .int .u8 0, .int .u8 0, .int .u8 0, .int .u8 0, .int .u8 0]) (by simp only [List.getElem?_toArray, List.getElem?_cons_zero, List.getElem?_cons_succ]; rfl) (by kernel_rfl) (by kernel_rfl) (by kernel_rfl) (fun _ _ _ h => h) (Or.inl ⟨by rfl, fun W hSw => ?_⟩) (by assumption) ?_
              · have hq0 := hSw.2.1.cell (k := 0) rfl
                have hq1 := hSw.2.1.cell (k := 1) rfl
                have hq2 := hSw.2.1.cell (k := 2) rfl
                have hq3 := hSw.2.1.cell (k := 3) rfl
                have hq4 := hSw.2.1.cell (k := 4) rfl
                have hq5 := hSw.2.1.cell (k := 5) rfl
                have hq6 := hSw.2.1.cell (k := 6) rfl
                have hq7 := hSw.2.1.cell (k := 7) rfl
                go_simp
              simp only [Act.put, List.setIfInBounds_toArray, List.set_cons_zero, List.set_cons_succ]
              refine wpAnyH_take (i := 5) (v := .int .i64 (k : Int)) (by simp only [List.getElem?_toArray, List.getElem?_cons_zero, List.getElem?_cons_succ]; rfl) (by kernel_rfl) (by kernel_rfl) (by kernel_rfl) (fun _ _ _ h => h) (Or.inl ⟨by rfl, fun W hSw => ?_⟩) (by assumption) ?_
              · clear hSw
                go_simp
              simp only [Act.put, List.setIfInBounds_toArray, List.set_cons_zero, List.set_cons_succ]
              refine wpAnyH_ready (rs := [6]) (by kernel_rfl) (by simp) ?_
              refine AllReadyH.cons (by simp only [List.getElem?_toArray, List.getElem?_cons_zero, List.getElem?_cons_succ]; rfl) (fun K hK => ?_) AllReadyH.nil
              rw [if_pos (by rfl)]
              go_simp
              refine hK.out _ _ hS1 (fun _ => ?_)
              clear hK K
              refine wpAnyH_done (by kernel_rfl) ?_ _
              refine NoPanic.normal ?_
              clear hS0 hS1 hrun
              go_wp2_with fail
              obtain ⟨hix, hrb, hrp, hla, hcn, hbe, hbs, hqs, hot⟩ := HP12.out
              obtain ⟨F, hF⟩ := hcn
              have hkv := kv_eq (key3 bs k)
              have hl0 := KMap.look (w := W12.drew) hF Tryz.keyLaw Tryz.underlying74 Tryz.zeroI Tryz.keyed kv_inj (key3 bs k) false
              obtain ⟨st, W13, hrun, hg13, hm13, hst⟩ := KMap.entry (w := W12.drew) hF Tryz.keyLaw Tryz.underlying74 Tryz.zeroI Tryz.keyed kv_inj (key3 bs k)
              have hl1 := KMap.look (w := W13) hm13 Tryz.keyLaw Tryz.underlying74 Tryz.zeroI Tryz.keyed kv_inj (key3 bs k) false
              rw [upd_same] at hl1
              simp only [Option.getD_some, if_false, Bool.false_eq_true] at hl0 hl1
              obtain ⟨W14, hrun2, hm14, hg14⟩ := hst W13 (IntKind.i64.wrap ((F (key3 bs k)).getD 0 + 1)) rfl
              have hl2 := KMap.look (w := W14) hm14 Tryz.keyLaw Tryz.underlying74 Tryz.zeroI Tryz.keyed kv_inj (key3 bs k) false
              rw [hkv] at hrun hl0 hl1
              have hix13 : Blk W13 X _ 79 := Blk.grown (w := W12.drew) hix hg13 (fun e => by cases e; exact HI.out.hX2 rfl)
              have hq13 : Blk W13 q _ 82 := Blk.grown (w := W12.drew) hqs hg13 (fun e => by cases e; exact kmap_ne hqs hF rfl)
              have hix14 : Blk W14 X _ 79 := Blk.grown hix13 hg14 (fun e => by cases e; exact HI.out.hX2 rfl)
              have hq14 : Blk W14 q _ 82 := Blk.grown hq13 hg14 (fun e => by cases e; exact kmap_ne hqs hF rfl)
              have hrb14 := own_grownAt (own_grownAt (w := W12.drew) hrb hg13 HI.out.h2) hg14 HI.out.h2
              have hrp14 := own_grownAt (own_grownAt (w := W12.drew) hrp hg13 HI.out.h2) hg14 HI.out.h2
              have hla14 := (KMap.grown (w := W12.drew) hla hg13 (fun e => by cases e; exact HI.out.h12 rfl)).grown hg14 (fun e => by cases e; exact HI.out.h12 rfl)
              have hbs13 : w.heap.size ≤ W13.heap.size := Nat.le_trans hbs hg13.size
              have hbe14 : Below B w W14 := ((show Below B w W12.drew from hbe.drew).grown hg13 (show B ≤ W12.heap.size from Nat.le_trans hB hbs) (fun m hm => by cases hm; exact HI.out.b2)).grown hg14 (Nat.le_trans hB hbs13) (fun m hm => by cases hm; exact HI.out.b2)
              have hot14 : ∀ b, b < w.heap.size → b ≠ X → b ≠ m1 → b ≠ m2 → W14.heap[b]? = w.heap[b]? := fun b b1 b2 b3 b4 => (hg14.block b (Nat.lt_of_lt_of_le b1 hbs13) (fun e => by cases e; exact b4 rfl)).trans ((hg13.block b (Nat.lt_of_lt_of_le b1 hbs) (fun e => by cases e; exact b4 rfl)).trans (hot b b1 b2 b3 b4))
              have HR9 := hid (show IxR B w.heap.size X m1 m2 bs 79 5 3 w (k + 1) (.slice avb bs.length cvb) (.slice av' (k + 1) cv') W14 from ⟨hix14, hrb14, by
                rw [prevL_succ, List.map_append, HPK.out]
                exact hrp14, hla14, ⟨_, hm14⟩, hbe14, Nat.le_trans hbs13 hg14.size, hot14⟩)
              generalize hvv : (F (key3 bs k)).getD 0 = vv at *
              clear hvv
              have hS0 : Blk W12.drew X [.slice avb bs.length cvb, .int .i64 3, .map (some m1), .map (some m2), .slice av' (k + 1) cv'] 79 ∧ Blk W12.drew q [.int .u8 ((key3 bs k).1.toNat : Int), .int .u8 ((key3 bs k).2.1.toNat : Int), .int .u8 ((key3 bs k).2.2.toNat : Int), .int .u8 0, .int .u8 0, .int .u8 0, .int .u8 0, .int .u8 0] 82 ∧ True := ⟨hix, hqs, trivial⟩
              have hS1 : Blk W13 X [.slice avb bs.length cvb, .int .i64 3, .map (some m1), .map (some m2), .slice av' (k + 1) cv'] 79 ∧ Blk W13 q [.int .u8 ((key3 bs k).1.toNat : Int), .int .u8 ((key3 bs k).2.1.toNat : Int), .int .u8 ((key3 bs k).2.2.toNat : Int), .int .u8 0, .int .u8 0, .int .u8 0, .int .u8 0, .int .u8 0] 82 ∧ True := ⟨hix13, hq13, trivial⟩
              have hS2 : Blk W14 X [.slice avb bs.length cvb, .int .i64 3, .map (some m1), .map (some m2), .slice av' (k + 1) cv'] 79 ∧ Blk W14 q [.int .u8 ((key3 bs k).1.toNat : Int), .int .u8 ((key3 bs k).2.1.toNat : Int), .int .u8 ((key3 bs k).2.2.toNat : Int), .int .u8 0, .int .u8 0, .int .u8 0, .int .u8 0, .int .u8 0] 82 ∧ True := ⟨hix14, hq14, trivial⟩
              clear hot hot14 hix hrb hrp hla hF hbe hbs hqs hix13 hq13 hix14 hq14 hrb14 hrp14 hla14 hbs13 hbe14 hm13 hm14 hg13 hg14 hst hl2 hkv HP12
              refine wp_region_noPanic ?_
              refine wp_region_held_drew (S := fun W => Blk W X [.slice avb bs.length cvb, .int .i64 3, .map (some m1), .map (some m2), .slice av' (k + 1) cv'] 79 ∧ Blk W q [.int .u8 ((key3 bs k).1.toNat : Int), .int .u8 ((key3 bs k).2.1.toNat : Int), .int .u8 ((key3 bs k).2.2.toNat : Int), .int .u8 0, .int .u8 0, .int .u8 0, .int .u8 0, .int .u8 0] 82 ∧ True) (by kernel_rfl) hS0 (fun hHeld => ?_)
              refine wpAnyH_take (i := 0) (v := .pointer (some ⟨X, 0, none⟩)) (by simp only [List.getElem?_toArray, List.getElem?_cons_zero]; rfl) (by kernel_rfl) (by kernel_rfl) (by kernel_rfl) (fun _ _ _ h => h) (Or.inl ⟨by rfl, fun W hSw => ?_⟩) (by assumption) ?_
              · clear hSw
                go_simp
              simp only [Act.put, List.setIfInBounds_toArray, List.set_cons_zero, List.set_cons_succ]
              refine wpAnyH_take (i := 1) (v := .pointer (some ⟨X, 0, none⟩)) (by simp only [List.getElem?_toArray, List.getElem?_cons_zero, List.getElem?_cons_succ]; rfl) (by kernel_rfl) (by kernel_rfl) (by kernel_rfl) (fun _ _ _ h => h) (Or.inl ⟨by rfl, fun W hSw => ?_⟩) (by assumption) ?_
              · clear hSw
                go_simp
              simp only [Act.put, List.setIfInBounds_toArray, List.set_cons_zero, List.set_cons_succ]
              refine wpAnyH_take (i := 2) (v := .pointer (some ⟨X, 3, none⟩)) (by simp only [List.getElem?_toArray, List.getElem?_cons_zero, List.getElem?_cons_succ]; rfl) (by kernel_rfl) (by kernel_rfl) (by kernel_rfl) (fun _ _ _ h => h) (Or.inl ⟨by rfl, fun W hSw => ?_⟩) (by assumption) ?_
              · clear hSw
                go_simp
              simp only [Act.put, List.setIfInBounds_toArray, List.set_cons_zero, List.set_cons_succ]
              refine wpAnyH_take (i := 3) (v := .map (some m2)) (by simp only [List.getElem?_toArray, List.getElem?_cons_zero, List.getElem?_cons_succ]; rfl) (by kernel_rfl) (by kernel_rfl) (by kernel_rfl) (fun _ _ _ h => h) (Or.inl ⟨by rfl, fun W hSw => ?_⟩) (by assumption) ?_
              · have hcw := hSw.1.cell (k := 3) rfl
                go_simp
              simp only [Act.put, List.setIfInBounds_toArray, List.set_cons_zero, List.set_cons_succ]
              refine wpAnyH_take (i := 4) (v := .agg #[.int .u8 ((key3 bs k).1.toNat : Int), .int .u8 ((key3 bs k).2.1.toNat : Int), .int .u8 ((key3 bs k).2.2.toNat : Int), .int .u8 0, .int .u8 0, .int .u8 0, .int .u8 0, .int .u8 0]) (by simp only [List.getElem?_toArray, List.getElem?_cons_zero, List.getElem?_cons_succ]; rfl) (by kernel_rfl) (by kernel_rfl) (by kernel_rfl) (fun _ _ _ h => h) (Or.inl ⟨by rfl, fun W hSw => ?_⟩) (by assumption) ?_
              · have hq0 := hSw.2.1.cell (k := 0) rfl
                have hq1 := hSw.2.1.cell (k := 1) rfl
                have hq2 := hSw.2.1.cell (k := 2) rfl
                have hq3 := hSw.2.1.cell (k := 3) rfl
                have hq4 := hSw.2.1.cell (k := 4) rfl
                have hq5 := hSw.2.1.cell (k := 5) rfl
                have hq6 := hSw.2.1.cell (k := 6) rfl
                have hq7 := hSw.2.1.cell (k := 7) rfl
                go_simp
              simp only [Act.put, List.setIfInBounds_toArray, List.set_cons_zero, List.set_cons_succ]
              refine wpAnyH_ready (rs := [5, 7]) (by kernel_rfl) (by simp) ?_
              refine AllReadyH.cons (by simp only [List.getElem?_toArray, List.getElem?_cons_zero, List.getElem?_cons_succ]; rfl) (fun K hK => ?_) (AllReadyH.cons (by simp only [List.getElem?_toArray, List.getElem?_cons_zero, List.getElem?_cons_succ]; rfl) (fun K hK => ?_) AllReadyH.nil)
              · rw [if_pos (by rfl)]
                go_simp
                refine hK.out _ _ hS0 (fun _ => ?_)
                clear hK K
                refine wpAnyH_take (i := 6) (v := .int .i64 (IntKind.i64.wrap (vv + 1))) (by simp only [List.getElem?_toArray, List.getElem?_cons_zero, List.getElem?_cons_succ]; rfl) (by kernel_rfl) (by kernel_rfl) (by kernel_rfl) (fun _ _ _ h => h) (Or.inl ⟨by rfl, fun W hSw => ?_⟩) (by assumption) ?_
                · clear hSw
                  go_simp
                simp only [Act.put, List.setIfInBounds_toArray, List.set_cons_zero, List.set_cons_succ]
                refine wpAnyH_ready (rs := [7]) (by kernel_rfl) (by simp) ?_
                refine AllReadyH.cons (by simp only [List.getElem?_toArray, List.getElem?_cons_zero, List.getElem?_cons_succ]; rfl) (fun K hK => ?_) AllReadyH.nil
                rw [if_pos (by rfl)]
                go_simp
                refine hK.out _ _ hS1 (fun _ => ?_)
                clear hK K
                refine wpAnyH_take (i := 8) (v := .int .i64 (st : Nat)) (by simp only [List.getElem?_toArray, List.getElem?_cons_zero, List.getElem?_cons_succ]; rfl) (by kernel_rfl) (by kernel_rfl) (by kernel_rfl) (fun _ _ _ h => h) (Or.inl ⟨by rfl, fun W hSw => ?_⟩) (by assumption) ?_
                · clear hSw
                  go_simp
                simp only [Act.put, List.setIfInBounds_toArray, List.set_cons_zero, List.set_cons_succ]
                refine wpAnyH_ready (rs := [9]) (by kernel_rfl) (by simp) ?_
                refine AllReadyH.cons (by simp only [List.getElem?_toArray, List.getElem?_cons_zero, List.getElem?_cons_succ]; rfl) (fun K hK => ?_) AllReadyH.nil
                rw [if_pos (by rfl)]
                go_simp
                refine hK.out _ _ hS2 (fun _ => ?_)
                clear hK K
                refine wpAnyH_done (by kernel_rfl) ?_ _
                refine NoPanic.normal ?_
                go_wp2
                go_roundg (bs.length - (k + 1))
                case measure => have := HK.out; omega
                case rel => exact ⟨k + 1, _, _, by have := HK.out; omega, by have := HK.out; omega, by go_num, HR9.out⟩
              · rw [if_pos (by rfl)]
                go_simp
                refine hK.out _ _ hS1 (fun _ => ?_)
                clear hK K
                refine wpAnyH_take (i := 8) (v := .int .i64 (st : Nat)) (by simp only [List.getElem?_toArray, List.getElem?_cons_zero, List.getElem?_cons_succ]; rfl) (by kernel_rfl) (by kernel_rfl) (by kernel_rfl) (fun _ _ _ h => h) (Or.inl ⟨by rfl, fun W hSw => ?_⟩) (by assumption) ?_
                · clear hSw
                  go_simp
                simp only [Act.put, List.setIfInBounds_toArray, List.set_cons_zero, List.set_cons_succ]
                refine wpAnyH_ready (rs := [5]) (by kernel_rfl) (by simp) ?_
                refine AllReadyH.cons (by simp only [List.getElem?_toArray, List.getElem?_cons_zero, List.getElem?_cons_succ]; rfl) (fun K hK => ?_) AllReadyH.nil
                rw [if_pos (by rfl)]
                go_simp
                refine hK.out _ _ hS1 (fun _ => ?_)
                clear hK K
                refine wpAnyH_take (i := 6) (v := .int .i64 (IntKind.i64.wrap (vv + 1))) (by simp only [List.getElem?_toArray, List.getElem?_cons_zero, List.getElem?_cons_succ]; rfl) (by kernel_rfl) (by kernel_rfl) (by kernel_rfl) (fun _ _ _ h => h) (Or.inl ⟨by rfl, fun W hSw => ?_⟩) (by assumption) ?_
                · clear hSw
                  go_simp
                simp only [Act.put, List.setIfInBounds_toArray, List.set_cons_zero, List.set_cons_succ]
                refine wpAnyH_ready (rs := [9]) (by kernel_rfl) (by simp) ?_
                refine AllReadyH.cons (by simp only [List.getElem?_toArray, List.getElem?_cons_zero, List.getElem?_cons_succ]; rfl) (fun K hK => ?_) AllReadyH.nil
                rw [if_pos (by rfl)]
                go_simp
                refine hK.out _ _ hS2 (fun _ => ?_)
                clear hK K
                refine wpAnyH_done (by kernel_rfl) ?_ _
                refine NoPanic.normal ?_
                go_wp2
                go_roundg (bs.length - (k + 1))
                case measure => have := HK.out; omega
                case rel => exact ⟨k + 1, _, _, by have := HK.out; omega, by have := HK.out; omega, by go_num, HR9.out⟩
      · have hd : decide ((k : Int) + 3 ≤ (bs.length : Int)) = false := decide_eq_false (by omega)
        go_wp2_with fail
        go_quiet (fail)
        clear hd
        go_wp2_with fail
        simp only [Exit.noGoto_ret]
        go_ret
        obtain rfl : k = bs.length - 2 := by omega
        exact ⟨rfl, _, _, HR2.out.drew _⟩
end Go.Proofs.YtlgablepckmogaaGreat
namespace Go.Port
open Go.RowKit
/-- The cells in the blocks of X that lay lie. -/
def TrX (X : Nat → Prop) (W W' : World) : Prop := ∀ (a : Addr) (u : Value), X a.block → W.cell? a = some u → W'.cell? a = some u
theorem TrX.refl (X : Nat → Prop) (W : World) : TrX X W W := fun _ _ _ h => h
theorem TrX.trans {X : Nat → Prop} {A B C : World} (h : TrX X A B) (k : TrX X B C) : TrX X A C := fun a u ha hu => k a u ha (h a u ha hu)
theorem TrX.low {X : Nat → Prop} {A B : World} (h : Below A.heap.size A B) : TrX X A B := fun a _ _ hu => (h.cell (World.block_lt_of_cell? A a hu)).trans hu
theorem TrX.of_keeps {X : Nat → Prop} {D : Nat} {T : TypeId → Bool} {A B : World} (h : KeepsT X D T A B) : TrX X A B := fun _ _ ha hu => h.cell ha hu
/-- A slice of n elements at a that reads as cs. -/
def CellsAt (w : World) (a : Option Addr) (cs : List Value) : Prop := ∀ j u, cs[j]? = some u → ∃ bl off, a = some ⟨bl, off, none⟩ ∧ bl < w.heap.size ∧ w.cell? ⟨bl, off + j, none⟩ = some u
theorem CellsAt.low {w w' : World} {a : Option Addr} {cs : List Value} (h : CellsAt w a cs) (hb : Below w.heap.size w w') : CellsAt w' a cs := at_same h hb
theorem Sl.cells' {w : World} {sz n : Nat} {a : Option Addr} {m c : Nat} {v : Value} {cs : List Value} (h : Sl w sz v n cs) (hv : v = .slice a m c) : CellsAt w a cs := by
  obtain ⟨a', c', e, _, _, _, h5⟩ := h.open
  rw [hv] at e
  cases e
  exact h5
theorem Sl.cap {w : World} {sz n : Nat} {a : Option Addr} {m c : Nat} {v : Value} {cs : List Value} (h : Sl w sz v n cs) (hv : v = .slice a m c) : n ≤ c ∧ (a = none → c = 0) := by
  obtain ⟨a', c', e, h1, _, h3, h5⟩ := h.open
  rw [hv] at e
  cases e
  exact ⟨h1, h3⟩
/-- The index of bytes bs lies at X. -/
structure IxAt (tix : TypeId) (bs : List UInt8) (X : Nat) (W : World) : Prop where
  ex : ∃ vb m1 m2 ap cp, Blk W X [vb, .int .i64 3, .map (some m1), .map (some m2), .slice ap (bs.length - 2) cp] tix ∧ bs.length - 2 ≤ cp ∧ CellsAt W ap ((prevL bs (bs.length - 2)).map iv)
theorem IxAt.low {tix : TypeId} {bs : List UInt8} {X : Nat} {W W' : World} (h : IxAt tix bs X W) (hb : Below W.heap.size W W') : IxAt tix bs X W' := by
  obtain ⟨vb, m1, m2, ap, cp, h1, h2, h3⟩ := h.ex
  exact ⟨vb, m1, m2, ap, cp, h1.below hb h1.lt, h2, h3.low hb⟩
theorem IxAt.lt {tix : TypeId} {bs : List UInt8} {X : Nat} {W : World} (h : IxAt tix bs X W) : X < W.heap.size := by
  obtain ⟨vb, m1, m2, ap, cp, h1, h2, h3⟩ := h.ex
  exact h1.lt
/-- The last earlier position with the same key, where there is a key. -/
def prevO (bs : List UInt8) (p : Int) : Option Nat := if 0 ≤ p ∧ p + 3 ≤ (bs.length : Int) then (hits bs p.toNat).head? else none
/-- All of them. -/
def chainS (bs : List UInt8) (p : Int) : List Nat := if 0 ≤ p ∧ p + 3 ≤ (bs.length : Int) then hits bs p.toNat else []
theorem chainS_head (bs : List UInt8) (p : Int) : (chainS bs p).head? = prevO bs p := by
  unfold chainS prevO
  split <;> rfl
theorem chainS_cons {bs : List UInt8} {p : Int} {q : Nat} {r : List Nat} (h : chainS bs p = q :: r) : (q : Int) < p ∧ r = chainS bs (q : Int) := by
  unfold chainS at h ⊢
  split at h
  · rename_i hc
    obtain ⟨h1, _, h3⟩ := hits_cons h
    rw [if_pos (by omega), Int.toNat_natCast]
    exact ⟨by omega, h3⟩
  · cases h
theorem chainS_length (bs : List UInt8) (p : Int) : (chainS bs p).length ≤ bs.length := by
  unfold chainS
  split
  · have := hitsGo_length bs (key3 bs p.toNat) p.toNat
    unfold hits
    omega
  · simp
def natI (p : Nat) : Value := .int .i64 (p : Int)
def optI (o : Option Nat) : Value := .tuple #[.int .i64 ((o.getD 0 : Nat) : Int), .bool o.isSome]
end Go.Port
namespace Go.Proofs.YtlgablepckmogaaGreat
open Go.RowKit Go.Port
attribute [local go_sem] Oper.semAt_some
set_option maxHeartbeats 800000 in
theorem xhas_any (bs : List UInt8) (X : Nat) (p : Int) (w : World) (hn : bs.length ≤ 1000000) (h : IxAt 79 bs X w) :
    Calls Tryz.prog 175 #[.pointer (some ⟨X, 0, none⟩), .int .i64 p] w fun e w' => e = .returned (.bool (decide (0 ≤ p) && decide (p + 3 ≤ (bs.length : Int)))) ∧ w = w' := by
  obtain ⟨vb, m1, m2, ap, cp, h1, h2, h3⟩ := h.ex
  have HN := hid (xnone_any X _ 3 w h1 rfl (by decide))
  have c4 := h1.cell (k := 4) rfl
  clear h h1 h3
  by_cases h0 : 0 ≤ p
  · by_cases hl : p + 3 ≤ (bs.length : Int)
    · have hd : p < ((bs.length - 2 : Nat) : Int) := by omega
      have e : (decide (0 ≤ p) && decide (p + 3 ≤ (bs.length : Int))) = true := by simp [h0, hl]
      rw [e]
      clear e
      have h0' : decide (0 ≤ p) = true := by simpa using h0
      have hd' : decide (p < ((bs.length - 2 : Nat) : Int)) = true := by simpa using hd
      clear hl
      go_enter Tryz.func175, Tryz.ntmps175
      go_wp2_with (go_at_call 35; refine HN.out.mono ?_; rintro e w' ⟨rfl, rfl⟩)
      go_ret
      exact ⟨rfl, rfl⟩
    · have hd : ¬ p < ((bs.length - 2 : Nat) : Int) := by omega
      have e : (decide (0 ≤ p) && decide (p + 3 ≤ (bs.length : Int))) = false := by simp [hl]
      rw [e]
      clear e
      have h0' : decide (0 ≤ p) = true := by simpa using h0
      have hd' : decide (p < ((bs.length - 2 : Nat) : Int)) = false := by simpa using hd
      clear hl
      go_enter Tryz.func175, Tryz.ntmps175
      go_wp2_with (go_at_call 35; refine HN.out.mono ?_; rintro e w' ⟨rfl, rfl⟩)
      go_ret
      exact ⟨rfl, rfl⟩
  · have e : (decide (0 ≤ p) && decide (p + 3 ≤ (bs.length : Int))) = false := by simp [h0]
    rw [e]
    clear e
    have h0' : decide (0 ≤ p) = false := by simpa using h0
    go_enter Tryz.func175, Tryz.ntmps175
    go_wp2_with (go_at_call 35; refine HN.out.mono ?_; rintro e w' ⟨rfl, rfl⟩)
    go_ret
    exact ⟨rfl, rfl⟩
set_option maxHeartbeats 800000 in
theorem xprev_any (bs : List UInt8) (X : Nat) (p : Int) (w : World) (hn : bs.length ≤ 1000000) (h : IxAt 79 bs X w) :
    Calls Tryz.prog 167 #[.pointer (some ⟨X, 0, none⟩), .int .i64 p] w fun e w' => e = .returned (optI (prevO bs p)) ∧ w = w' := by
  have HH := hid (xhas_any bs X p w hn h)
  obtain ⟨vb, m1, m2, ap, cp, h1, h2, h3⟩ := h.ex
  have c4 := h1.cell (k := 4) rfl
  clear h h1
  by_cases hc : 0 ≤ p ∧ p + 3 ≤ (bs.length : Int)
  · obtain ⟨P, rfl⟩ : ∃ P : Nat, p = (P : Int) := ⟨p.toNat, by omega⟩
    have hP : P < bs.length - 2 := by omega
    have e : (decide (0 ≤ (P : Int)) && decide ((P : Int) + 3 ≤ (bs.length : Int))) = true := by simp; omega
    rw [e] at HH
    have he : prevO bs (P : Int) = (hits bs P).head? := by
      unfold prevO
      rw [if_pos (by omega), Int.toNat_natCast]
    obtain ⟨bl, off, rfl, hbl, hcell⟩ := h3 P (iv (prevI bs P)) (by rw [List.getElem?_map, prevL_get hP]; rfl)
    have hPI : (P : Int) < ((bs.length - 2 : Nat) : Int) := by omega
    rw [he]
    unfold prevI iv at hcell
    clear h3 e he hc
    cases hh : (hits bs P).head? with
    | none =>
      rw [hh] at hcell
      dsimp only at hcell
      clear hh
      go_enter Tryz.func167, Tryz.ntmps167
      go_wp2_with (go_at_call 175; refine HH.out.mono ?_; rintro e w' ⟨rfl, rfl⟩)
      go_ret2
      exact ⟨rfl, rfl⟩
    | some q =>
      rw [hh] at hcell
      dsimp only at hcell
      have hq0 : ¬ (q : Int) < 0 := by omega
      have hqd : decide ((q : Int) < 0) = false := decide_eq_false hq0
      clear hh
      go_enter Tryz.func167, Tryz.ntmps167
      go_wp2_with (go_at_call 175; refine HH.out.mono ?_; rintro e w' ⟨rfl, rfl⟩)
      go_ret2
      exact ⟨rfl, rfl⟩
  · have e : (decide (0 ≤ p) && decide (p + 3 ≤ (bs.length : Int))) = false := by
      rw [← Bool.not_eq_true]
      simpa using hc
    rw [e] at HH
    have he : prevO bs p = none := by
      unfold prevO
      rw [if_neg hc]
    rw [he]
    clear e he hc h3
    go_enter Tryz.func167, Tryz.ntmps167
    go_wp2_with (go_at_call 175; refine HH.out.mono ?_; rintro e w' ⟨rfl, rfl⟩)
    go_ret2
    exact ⟨rfl, rfl⟩
theorem xnext_any (bs : List UInt8) (X c : Nat) (p : Int) (w : World) (hn : bs.length ≤ 1000000) (h : IxAt 79 bs X w) (hc : w.cell? ⟨c, 0, none⟩ = some (.pointer (some ⟨X, 0, none⟩))) :
    Calls Tryz.prog 166 #[.int .i64 p, .pointer (some ⟨c, 0, none⟩)] w fun e w' => e = .returned (optI (prevO bs p)) ∧ w = w' := by
  have HP := hid (xprev_any bs X p w hn h)
  unfold optI at HP ⊢
  go_enter Tryz.func166, Tryz.ntmps166
  go_wp2_with (go_at_call 167; refine HP.out.mono ?_; rintro e w' ⟨rfl, rfl⟩)
  go_ret2
  exact ⟨rfl, rfl⟩
end Go.Proofs.YtlgablepckmogaaGreat
namespace Go.Port
open Go.RowKit
/-- The elements with their numbers. -/
def enumN (l : List Nat) : List (Int × Nat) := l.zipIdx.map fun p => ((p.2 : Int), p.1)
theorem enumN_snoc (l : List Nat) (x : Nat) : enumN (l ++ [x]) = enumN l ++ [((l.length : Int), x)] := by
  unfold enumN
  rw [List.zipIdx_append, List.map_append]
  simp
theorem enumN_snd (l : List Nat) : (enumN l).map (·.2) = l := by
  unfold enumN
  rw [List.map_map]
  have : ((fun p : Int × Nat => p.2) ∘ fun p : Nat × Nat => ((p.2 : Int), p.1)) = Prod.fst := rfl
  rw [this, List.zipIdx_map_fst]
theorem enumN_take {l : List Nat} {k : Nat} {x : Nat} (h : l[k]? = some x) : enumN (l.take (k + 1)) = enumN (l.take k) ++ [((k : Int), x)] := by
  obtain ⟨h1, h2⟩ := List.getElem?_eq_some_iff.1 h
  rw [List.take_succ_eq_append_getElem h1, h2, enumN_snoc, List.length_take, Nat.min_eq_left (Nat.le_of_lt h1)]
theorem enumN_pre (l : List Nat) (k : Nat) : ∃ rest, enumN (l.take k) ++ rest = enumN l := by
  refine ⟨(enumN l).drop (enumN (l.take k)).length, ?_⟩
  have h : enumN (l.take k) = (enumN l).take k := by
    unfold enumN
    rw [← List.map_take]
    congr 1
    apply List.ext_getElem?
    intro i
    simp only [List.getElem?_zipIdx, List.getElem?_take]
    split <;> simp
  rw [h]
  have : ((enumN l).take k).length = min k (enumN l).length := List.length_take
  rw [this]
  rcases Nat.le_total k (enumN l).length with hk | hk
  · rw [Nat.min_eq_left hk, List.take_append_drop]
  · rw [Nat.min_eq_right hk, List.take_of_length_le hk, List.drop_length, List.append_nil]
def encsN (x : Int × Nat) : Array Value := #[.int .i64 x.1, .int .i64 (x.2 : Int)]
/-- A position and its distance. -/
def encsD (own : Int) (x : Nat) : Array Value := #[.int .i64 (x : Int), .int .i64 (own - (x : Int))]
end Go.Port
namespace Go.Proofs.YtlgablepckmogaaGreat
open Go.RowKit Go.Port
attribute [local go_sem] Oper.semAt_some
set_option maxRecDepth 100000 in
set_option maxHeartbeats 2000000 in
theorem xgone_any (bs : List UInt8) (X c : Nat) (p : Int) (w : World) (hn : bs.length ≤ 1000000) (h : IxAt 79 bs X w) (hc : w.cell? ⟨c, 0, none⟩ = some (.pointer (some ⟨X, 0, none⟩))) (hcl : c < w.heap.size) :
    Calls Tryz.prog 165 #[.int .i64 p, .func (.func 166) #[] #[.pointer (some ⟨c, 0, none⟩)]] w fun e w' => ∃ v, e = .returned v ∧ w'.ownsRow w.heap.size 3 1 v (chainS bs p).length ((chainS bs p).map natI) ∧ Below w.heap.size w w' := by
  have HNx := hid (fun (W : World) (hW : Below w.heap.size w W) (q : Int) => (show Calls Tryz.prog 166 #[.int .i64 q, .pointer (some ⟨c, 0, none⟩)] W fun e w' => e = .returned (.tuple #[.int .i64 (((prevO bs q).getD 0 : Nat) : Int), .bool (prevO bs q).isSome]) ∧ W = w' from xnext_any bs X c q W hn (h.low hW) ((hW.cell (p := ⟨c, 0, none⟩) hcl).trans hc)))
  clear h hc
  have hL := chainS_length bs p
  go_enter Tryz.func165, Tryz.ntmps165
  go_wp2_with fail
  refine (HNx.out w (Below.refl _ _) p).mono ?_
  rintro e w' ⟨rfl, rfl⟩
  go_wp2_with fail
  go_loopg [4, 5, 6] (chainS bs p).length (fun g v x is wr => ∃ (pre rest : List Nat) (q : Option Nat), Hid (chainS bs p = pre ++ rest) ∧ rest.length = g ∧ Hid (rest.head? = q) ∧ x = .int .i64 (((q.getD 0 : Nat) : Int)) ∧ is = .bool q.isSome ∧ Hid (∀ y r, rest = y :: r → r = chainS bs (y : Int)) ∧ wr.ownsRow w.heap.size 3 1 v pre.length (pre.map natI) ∧ Below w.heap.size w wr)
  case atStart =>
    exact ⟨[], chainS bs p, prevO bs p, hid rfl, rfl, hid (chainS_head bs p), rfl, rfl, hid (fun y r e => (chainS_cons e).2), World.ownsRow_nil _ _ _ _, Below.refl _ _⟩
  case round =>
    obtain ⟨pre, rest, q, HL, hg, HQ, rfl, rfl, HR, hown, hB⟩ := hrel
    cases q with
    | none =>
      have hr : rest = [] := List.head?_eq_none_iff.1 HQ.out
      subst hr
      have hE := HL.out
      rw [List.append_nil] at hE
      have HE := hid hE
      have HO := hid hown
      have HB := hid hB
      clear hown hB hE
      go_wp2
      go_ret
      rw [HE.out]
      exact ⟨_, rfl, HO.out, HB.out⟩
    | some y =>
      obtain ⟨r, rfl⟩ : ∃ r, rest = y :: r := by
        have := HQ.out
        cases rest with
        | nil => cases this
        | cons z r => cases this; exact ⟨r, rfl⟩
      have hr := HR.out y r rfl
      have hpl : pre.length + 1 ≤ bs.length := by
        have h1 := hL
        rw [HL.out] at h1
        simp only [List.length_append, List.length_cons] at h1
        omega
      have HRr := hid hr
      have HO := hid hown
      have HB := hid hB
      have HG := hid hg
      have hs : w.heap.size ≤ wr.heap.size := hB.size
      clear hr hown hB hg HQ HR
      obtain ⟨av, cv, rfl⟩ := own_slice HO.out
      simp only [Option.getD_some, Option.isSome_some]
      go_wp2_with (at_builtin; refine Hid.out ?_)
      refine hid ?_
      refine wpList_append1 rfl _ _ 77 rfl 3 _ 1 8 Tryz.underlying77 Tryz.info_int rfl (by decide) (by decide) _ w.heap.size _ _ _ [.int .i64 (y : Int)] rfl ?hu rfl rfl (by exact HO.out) ?hn hs ?hk
      case hu => simp [Value.oneCell']
      case hn => omega
      case hk =>
        intro v' w3 hown' hg
        have hbg := below_grown HO.out hg hs
        have HB3 := hid (HB.out.trans hbg)
        have HO3 := hid hown'
        clear hown' hg hbg
        go_wp2_with fail
        refine (HNx.out w3 HB3.out (y : Int)).mono ?_
        rintro e w' ⟨rfl, rfl⟩
        have HN2 := hid (show r.head? = prevO bs (y : Int) from by rw [HRr.out, chainS_head])
        generalize prevO bs (y : Int) = o at *
        go_wp2_with fail
        go_roundg r.length
        case measure => have := HG.out; simp only [List.length_cons] at this; omega
        case rel =>
          refine ⟨pre ++ [y], r, o, hid (by rw [HL.out]; simp), rfl, HN2, rfl, rfl, hid (fun z t e => ?_), ?_, HB3.out⟩
          · rw [HRr.out] at e
            exact (chainS_cons e).2
          · rw [List.length_append, List.map_append]
            exact HO3.out
theorem xall_any (a : Option Addr) (n c : Nat) (w : World) :
    Calls Tryz.prog 169 #[.slice a n c] w fun e w' => e = .returned (.func (.func 176) #[] #[.pointer (some ⟨w.heap.size, 0, none⟩)]) ∧ w.alloc (.cells #[.slice a n c] 77) = w' := by
  go_enter Tryz.func169, Tryz.ntmps169
  go_wp2
  go_ret
  exact ⟨rfl, rfl⟩
set_option maxRecDepth 100000 in
set_option maxHeartbeats 2000000 in
theorem xall_seq (X : Nat → Prop) (T : TypeId → Bool) (p : Nat) (a : Option Addr) (c : Nat) (l : List Nat) (w0 : World) (hl : l.length ≤ 1000000) (hp : X p) (hb : w0.cell? ⟨p, 0, none⟩ = some (.slice a l.length c))
    (hc : ∀ j u, (l.map natI)[j]? = some u → ∃ b off, a = some ⟨b, off, none⟩ ∧ X b ∧ w0.cell? ⟨b, off + j, none⟩ = some u) :
    SeqSt Tryz.prog 176 #[.pointer (some ⟨p, 0, none⟩)] encsN (fun xs => xs = enumN l) (fun xs => ∃ rest, xs ++ rest = enumN l) X T w0 := by
  intro lp J Jx W hW hJ hJx hY hJ0
  have hT0 : TrX X w0 W := TrX.low hW
  have hpW := hT0 _ _ (show X (⟨p, 0, none⟩ : Addr).block from hp) hb
  have HC := hid (fun (W' : World) (hT : TrX X w0 W') j u hu => (show ∃ b off, a = some ⟨b, off, none⟩ ∧ b < W'.heap.size ∧ W'.cell? ⟨b, off + j, none⟩ = some u from by
    obtain ⟨b, off, e, hb, hc⟩ := hc j u hu
    have := hT ⟨b, off + j, none⟩ u hb hc
    exact ⟨b, off, e, World.block_lt_of_cell? W' _ this, this⟩))
  have HY := hid hY
  have hT := hT0
  clear hc hY hT0 hb hJx hJ
  refine callsIn_of_wp Tryz.func176 rfl trivial ?_ rfl
  simp only [Tryz.ntmps176, List.size_toArray, List.length_cons, List.length_nil, Nat.reduceAdd, Nat.reduceSub, Array.replicate_succ, Array.replicate_zero, List.push_toArray, List.append_toArray, List.nil_append, List.cons_append]
  gi_wp2
  gi_loopw [7] (fun i wr => ∃ (k : Nat), k ≤ l.length ∧ i = .int .i64 k ∧ J (enumN (l.take k)) wr ∧ TrX X w0 wr) (fun i _ => l.length - (intOf i).toNat)
  case atStart => exact ⟨0, Nat.zero_le _, rfl, hJ0, hT⟩
  case round =>
    obtain ⟨k, hk, rfl, hJk, hTr⟩ := hrel
    by_cases hlt : k < l.length
    · obtain ⟨x, hx⟩ : ∃ x, l[k]? = some x := ⟨l[k], by simp [hlt]⟩
      obtain ⟨bl, off, rfl, hb0, c0⟩ := HC.out wr hTr k (natI x) (by rw [List.getElem?_map, hx]; rfl)
      unfold natI at c0
      have HST := hid (enumN_take hx)
      have HPre := hid (enumN_pre l (k + 1))
      have HT := hid hTr
      have HK := hid hlt
      obtain ⟨fn, tmps, assign, body, hy, hRy⟩ := HY.out (enumN (l.take k)) ((k : Int), x) wr hJk (by rw [← HST.out]; exact HPre.out)
      have hy2 : (Instr.yield lp #[.int .i64 (k : Int), .int .i64 (x : Int)]).run Tryz.prog wr = .ok (.round lp fn tmps assign body) wr := hy
      have HRy := hid hRy
      clear hx hTr hJk hk hlt hy hRy
      have tk : (k : Int) < (l.length : Int) := by have := HK.out; omega
      gi_wp2
      refine ⟨rfl, HRy.out.mono ?_⟩
      rintro e w2 ⟨hkp, (⟨rfl, hJ2⟩ | ⟨rfl, hJx2⟩)⟩
      · gi_wp2
        go_roundw
        case rel =>
          refine ⟨k + 1, HK.out, by go_num, ?_, HT.out.trans (TrX.of_keeps hkp)⟩
          rw [HST.out]
          exact hJ2
        case measure =>
          have := HK.out
          simp [intOf]; omega
      · have HE := hid (show ∃ rest, (enumN (l.take k) ++ [((k : Int), x)]) ++ rest = enumN l from by rw [← HST.out]; exact HPre.out)
        gi_wp2
        refine bodyPost_ret (results_none rfl _ _ _) rfl ?_
        exact ⟨⟨_, rfl⟩, .inr ⟨_, HE.out, hJx2⟩⟩
    · obtain rfl : k = l.length := by omega
      rw [List.take_of_length_le (Nat.le_refl _)] at hJk
      gi_wp2
      refine bodyPost_end (results_none rfl _ _ _) rfl ?_
      exact ⟨⟨_, rfl⟩, .inl ⟨_, rfl, hJk⟩⟩
end Go.Proofs.YtlgablepckmogaaGreat
namespace Go.Proofs.YtlgablepckmogaaGreat
open Go.RowKit Go.Port
attribute [local go_sem] Oper.semAt_some
set_option maxHeartbeats 800000 in
theorem xchain_any (bs : List UInt8) (X : Nat) (p : Int) (w : World) (hn : bs.length ≤ 1000000) (h : IxAt 79 bs X w) :
    Calls Tryz.prog 149 #[.pointer (some ⟨X, 0, none⟩), .int .i64 p] w fun e w' => ∃ g k a c, e = .returned (.func (.func 168) #[] #[.pointer (some ⟨g, 0, none⟩), .pointer (some ⟨k, 0, none⟩)]) ∧ Blk w' g [.slice a (chainS bs p).length c] 77 ∧ Blk w' k [.int .i64 p] 3 ∧
      CellsAt w' a ((chainS bs p).map natI) ∧ Below w.heap.size w w' := by
  have hB0 : Below w.heap.size w ((w.alloc (.cells #[.pointer (some ⟨X, 0, none⟩)] 44)).alloc (.cells #[.int .i64 p] 3)) := (below_new w _).alloc (by simp) _
  have hs0 : ((w.alloc (.cells #[.pointer (some ⟨X, 0, none⟩)] 44)).alloc (.cells #[.int .i64 p] 3)).heap.size = w.heap.size + 2 := by simp
  have hb0 : Blk ((w.alloc (.cells #[.pointer (some ⟨X, 0, none⟩)] 44)).alloc (.cells #[.int .i64 p] 3)) w.heap.size [.pointer (some ⟨X, 0, none⟩)] 44 := (Blk.new w _ _).alloc _
  have hb1 : Blk ((w.alloc (.cells #[.pointer (some ⟨X, 0, none⟩)] 44)).alloc (.cells #[.int .i64 p] 3)) (w.heap.size + 1) [.int .i64 p] 3 := by
    have := Blk.new (w.alloc (.cells #[.pointer (some ⟨X, 0, none⟩)] 44)) [.int .i64 p] 3
    rwa [show (w.alloc (.cells #[.pointer (some ⟨X, 0, none⟩)] 44)).heap.size = w.heap.size + 1 from by simp] at this
  have HG := hid (xgone_any bs X w.heap.size p _ hn (h.low hB0) (hb0.cell (k := 0) rfl) hb0.lt)
  have HB0 := hid hB0
  have HB1 := hid hb1
  clear h hB0 hb0 hb1 hs0
  go_enter Tryz.func149, Tryz.ntmps149
  go_wp2_with fail
  refine HG.out.mono ?_
  rintro e w1 ⟨v, rfl, hown, hb⟩
  obtain ⟨a, c, rfl⟩ := own_slice hown
  have hb' := HB0.out.trans (hb.mono HB0.out.size)
  have HO := hid ((Sl.of_owns (own_low hown (below_new w1 (.cells #[.slice a (chainS bs p).length c] 77)))).cells' rfl)
  have HK := hid ((HB1.out.below hb HB1.out.lt).alloc (.cells #[.slice a (chainS bs p).length c] 77))
  have HB := hid (hb'.alloc hb'.size (.cells #[.slice a (chainS bs p).length c] 77))
  clear hown hb hb' HG HB0 HB1
  go_wp2
  go_ret
  exact ⟨_, _, _, _, rfl, Blk.new w1 [.slice a (chainS bs p).length c] _, HK.out, HO.out, HB.out⟩
set_option maxRecDepth 100000 in
set_option maxHeartbeats 4000000 in
theorem xchain2_seq (X : Nat → Prop) (T : TypeId → Bool) (g k : Nat) (a : Option Addr) (c : Nat) (l : List Nat) (own : Int) (w0 : World) (hl : l.length ≤ 1000000) (hown : 0 ≤ own ∧ own ≤ 1000000) (hlo : ∀ x ∈ l, (x : Int) ≤ 1000000) (hg : X g) (hk : X k) (hT : T 77 = false) (hT2 : T 114 = false)
    (hb : w0.cell? ⟨g, 0, none⟩ = some (.slice a l.length c)) (hb2 : w0.cell? ⟨k, 0, none⟩ = some (.int .i64 own))
    (hc : ∀ j u, (l.map natI)[j]? = some u → ∃ b off, a = some ⟨b, off, none⟩ ∧ X b ∧ w0.cell? ⟨b, off + j, none⟩ = some u) :
    SeqSt Tryz.prog 168 #[.pointer (some ⟨g, 0, none⟩), .pointer (some ⟨k, 0, none⟩)] (encsD own) (fun xs => xs = l) (fun xs => ∃ rest, xs ++ rest = l) X T w0 := by
  intro lp J Jx W hW hJ hJx hY hJ0
  have hT0 : TrX X w0 W := TrX.low hW
  have hpW := hT0 _ _ (show X (⟨g, 0, none⟩ : Addr).block from hg) hb
  have HK0 := hid (fun (W' : World) (hT : TrX X w0 W') => hT _ _ (show X (⟨k, 0, none⟩ : Addr).block from hk) hb2)
  have HC := hid (fun (W' : World) (hT : TrX X w0 W') j u hu => (show ∃ b off, a = some ⟨b, off, none⟩ ∧ X b ∧ W'.cell? ⟨b, off + j, none⟩ = some u from by
    obtain ⟨b, off, e, hb, hc⟩ := hc j u hu
    exact ⟨b, off, e, hb, hT ⟨b, off + j, none⟩ u hb hc⟩))
  have HY := hid hY
  have HJ := hid hJ
  have HJx := hid hJx
  have HJ0 := hid hJ0
  have HT0 := hid hT0
  have HLo := hid hlo
  clear hc hY hT0 hb hJx hJ hJ0 hb2 hlo
  have hpl : g < W.heap.size := World.block_lt_of_cell? W _ hpW
  refine callsIn_wide.2 ((callsIn_wide (n := 1)).1 ?_)
  refine callsIn_of_wp_marks Tryz.func168 rfl trivial ?_ rfl
  simp only [Tryz.ntmps168, List.size_toArray, List.length_cons, List.length_nil, Nat.reduceAdd, Nat.reduceSub, Array.replicate_succ, Array.replicate_zero, List.push_toArray, List.append_toArray, List.nil_append, List.cons_append]
  gi_wp2
  refine wpIn_wide.2 (wp_scope_straight ((wpIn_wide (n := 0)).1 ?_))
  have HS1 := hid (fun W => callsIn_wide (n := 0) |>.2 (xall_any a l.length c W))
  gi_wp2
  refine wpIn_label ?_
  gi_wp2_with (refine ⟨trivial, rfl, ?_⟩; refine (HS1.out _).mono ?_; rintro e w' ⟨rfl, rfl⟩)
  have hpw2 := hid (Blk.new (W.alloc (.cells #[.func (.yield lp) #[] #[]] 114)) [.slice a l.length c] 77)
  have hyb : Blk ((W.alloc (.cells #[.func (.yield lp) #[] #[]] 114)).alloc (.cells #[.slice a l.length c] 77)) W.heap.size [.func (.yield lp) #[] #[]] 114 := (Blk.new W _ _).alloc _
  have hbW : Below W.heap.size W ((W.alloc (.cells #[.func (.yield lp) #[] #[]] 114)).alloc (.cells #[.slice a l.length c] 77)) := (below_new W _).alloc (by simp) _
  have hsz : ((W.alloc (.cells #[.func (.yield lp) #[] #[]] 114)).alloc (.cells #[.slice a l.length c] 77)).heap.size = W.heap.size + 2 := by simp
  have hsz1 : (W.alloc (.cells #[.func (.yield lp) #[] #[]] 114)).heap.size = W.heap.size + 1 := by simp
  rw [hsz1] at hpw2
  have hJ2 := HJ.out.low HJ0.out hbW
  have hT2w := HT0.out.trans (TrX.low hbW)
  generalize ((W.alloc (.cells #[.func (.yield lp) #[] #[]] 114)).alloc (.cells #[.slice a l.length c] 77)) = w2 at *
  have hle : W.heap.size ≤ w2.heap.size := by omega
  refine wpIn_wide.2 ((wpIn_wide (n := 1)).1 ?_)
  apply wpIn_rangeSt (gf := 176) (lb := #[.pointer (some ⟨W.heap.size + 1, 0, none⟩)]) rfl (enters_of Tryz.func176 (by kernel_rfl) rfl) (encs := encsN)
    (xall_seq (fun k => X k ∨ k = W.heap.size + 1) T (W.heap.size + 1) a c l w2 hl (.inr rfl) (hpw2.out.cell (k := 0) rfl) (fun j u hu => by
      obtain ⟨b, off, e, hb, hc⟩ := HC.out w2 hT2w j u hu
      exact ⟨b, off, e, .inl hb, hc⟩)) (fun _ => rfl)
    (fun xs Wr => J (xs.map (Prod.snd : Int × Nat → Nat)) Wr ∧ Blk Wr W.heap.size [.func (.yield lp) #[] #[]] 114 ∧ Blk Wr (W.heap.size + 1) [.slice a l.length c] 77 ∧ Wr.cell? ⟨k, 0, none⟩ = some (.int .i64 own))
    (fun cd xs Wr => cd = .exit 0 ∧ Jx (xs.map (Prod.snd : Int × Nat → Nat)) Wr)
    (((HJ.out.mono hle).map (List.map (Prod.snd : Int × Nat → Nat))).and ((stays_cells _ _ _ _).and ((stays_cells _ _ _ _).and (fun _ _ _ _ h hg hr => cell_kept h hg (fun r e => (hr r e).2)))))
    (fun cd => (StaysC.pure _ (fun _ => cd = .exit 0)).and ((HJx.out.mono hle).map (List.map (Prod.snd : Int × Nat → Nat)))) ⟨hJ2, hyb, hpw2.out, HK0.out w2 hT2w⟩
    (fun x a' _ => a' = { tmps := #[.func (.yield lp) #[] #[], .pointer (some ⟨g, 0, none⟩), .pointer (some ⟨k, 0, none⟩), .pointer (some ⟨W.heap.size, 0, none⟩), undef, .int .i64 (x.2 : Int), .slice a l.length c, .func (.func 176) #[] #[.pointer (some ⟨W.heap.size + 1, 0, none⟩)], .int .i64 x.1, .int .i64 (x.2 : Int), undef, undef, undef, undef, undef, undef, undef], defers := [] })
    (fun x a' => StaysC.pure _ _)
  case hassign =>
    rintro l' pre ⟨i, x⟩ Wr K hI hSp hK
    unfold encsN
    have HK := hid (fun a' => hK a' Wr (KeepsT.refl _ _ _ _) hI)
    clear hK hI
    gi_wp2
    exact HK.out _ rfl
  case hbody =>
    rintro l' pre ⟨i, x⟩ a' Wr ⟨h1, h2, h3, h4⟩ rfl hSp
    have hsp : ∃ rest, (pre.map (Prod.snd : Int × Nat → Nat) ++ [x]) ++ rest = l := by
      obtain ⟨rest, hr⟩ := hSp
      refine ⟨rest.map Prod.snd, ?_⟩
      rw [← enumN_snd l, ← hr]
      simp
    have hx : (x : Int) ≤ 1000000 := HLo.out x (by
      obtain ⟨rest, hr⟩ := hsp
      rw [← hr]
      simp)
    obtain ⟨fn, tmps, assign, body, hy, hRy⟩ := HY.out (pre.map Prod.snd) x Wr h1 hsp
    have hy2 : (Instr.yield lp #[.int .i64 (x : Int), .int .i64 (own - (x : Int))]).run Tryz.prog Wr = .ok (.round lp fn tmps assign body) Wr := hy
    have HRy := hid hRy
    have d0 := h2.cell (k := 0) rfl
    have hkx : X k := hk
    have HKk := hid (fun (A : World) (D : Nat) (h : KeepsT X D T Wr A) => h.cell (a := ⟨k, 0, none⟩) hkx h4)
    have H2 := hid h2
    have H3 := hid h3
    clear hy hRy h1 h2 h3 hSp hsp
    gi_wp2
    refine ⟨rfl, HRy.out.mono ?_⟩
    rintro e w3 ⟨hkp, (⟨rfl, hJ3⟩ | ⟨rfl, hJx3⟩)⟩
    · have HF := hid (And.intro (hkp.also H3.out (by omega) hT hle) (And.intro hJ3 (And.intro (hkp.blk H2.out (.inr ⟨Nat.le_refl _, hT2⟩)) (And.intro (hkp.blk H3.out (.inr ⟨by omega, hT⟩)) (HKk.out w3 _ hkp)))))
      clear hkp hJ3
      gi_wp2
      refine ⟨HF.out.1, ?_, HF.out.2.2⟩
      rw [List.map_append]
      exact HF.out.2.1
    · have HF := hid (And.intro (hkp.also H3.out (by omega) hT hle) hJx3)
      clear hkp hJx3
      gi_wp2
      refine ⟨HF.out.1, rfl, ?_⟩
      rw [List.map_append]
      exact HF.out.2
  case hdone =>
    rintro D xs Wr hD rfl ⟨h1, h2, h3, h4⟩ hk
    rw [enumN_snd] at h1
    gi_wp2
    simp only [Exit.noGoto_normal]
    refine ⟨by simp, .inl ⟨_, _, rfl, run_takeDeferred hk, ?_⟩⟩
    refine ⟨_, results_none rfl _ _ _, ⟨_, rfl⟩, .inl ⟨l, rfl, HJ.out.put _ h1 (by omega) hk rfl⟩⟩
  case hstop =>
    rintro D cd xs Wr hD ⟨rest, hrest⟩ ⟨rfl, h1⟩ hk
    have hsp : ∃ rest, xs.map (Prod.snd : Int × Nat → Nat) ++ rest = l := ⟨rest.map Prod.snd, by rw [← enumN_snd l, ← hrest]; simp⟩
    have HSp := hid hsp
    clear hsp
    gi_wp2
    simp only [Exit.noGoto_normal]
    refine ⟨by simp, .inl ⟨_, _, rfl, run_takeDeferred hk, ?_⟩⟩
    refine ⟨_, results_none rfl _ _ _, ⟨_, rfl⟩, .inr ⟨_, HSp.out, HJx.out.put _ h1 (by omega) hk rfl⟩⟩
end Go.Proofs.YtlgablepckmogaaGreat
