/-
  The walks of layer 27, second part: Add, to an empty index.
-/
import Derived.Test.YtngphgdoolcpcaaIxA
import Derived.Test.YtngphgdoolcpcaaMem
import Derived.Deep.DeepCutAuto
import Derived.Deep.LoopGhost
import Derived.Deep.RegionHeld3
import Derived.ScopeJumps
import Derived.Outline
namespace Go.Port
open Go.RowKit
/-- The index while it grows: bytes bs, k positions entered. -/
structure IxR (B base X m1 m2 : Nat) (bs : List UInt8) (tix t8 ti : TypeId) (w : World) (k : Nat) (vb vp : Value) (wr : World) : Prop where
  ix : Blk wr X [vb, .int .i64 3, .map (some m1), .map (some m2), vp] tix
  rb : wr.ownsRow base t8 1 vb bs.length (bs.map bv)
  rp : wr.ownsRow base ti 1 vp k ((prevL bs k).map iv)
  last : KMap kv wr m1 (fun K => (hitsGo bs K k).head?.map fun p => (p : Int))
  cnt : ∃ F, KMap kv wr m2 F
  below : Below B w wr
  bse : base ≤ wr.heap.size
  oth : ∀ b, b < base → b ≠ X → b ≠ m1 → b ≠ m2 → wr.heap[b]? = w.heap[b]?
/-- The bounds of its blocks. -/
structure IxB (B base X m1 m2 : Nat) : Prop where
  hX : X < base
  h1 : m1 < base
  h2 : m2 < base
  hX1 : X ≠ m1
  hX2 : X ≠ m2
  h12 : m1 ≠ m2
  bX : B ≤ X
  b1 : B ≤ m1
  b2 : B ≤ m2
theorem IxR.low {B base X m1 m2 : Nat} {bs : List UInt8} {tix t8 ti : TypeId} {w : World} {k : Nat} {vb vp : Value} {wr wr' : World} (h : IxR B base X m1 m2 bs tix t8 ti w k vb vp wr) (hB : B ≤ base) (hb : Below wr.heap.size wr wr') : IxR B base X m1 m2 bs tix t8 ti w k vb vp wr' :=
  ⟨h.ix.below hb h.ix.lt, own_low h.rb hb, own_low h.rp hb, h.last.low hb, (let ⟨F, hF⟩ := h.cnt; ⟨F, hF.low hb⟩), h.below.trans (hb.mono (Nat.le_trans hB h.bse)), Nat.le_trans h.bse hb.size, fun b h1 h2 h3 h4 => (hb.block b (Nat.lt_of_lt_of_le h1 h.bse)).trans (h.oth b h1 h2 h3 h4)⟩
theorem own_far {w : World} {base sz n : Nat} {e : TypeId} {v : Value} {xs : List Value} (h : w.ownsRow base e sz v n xs) {a : Addr} (u : Value) (ha : a.block < base) : (w.setCell a u).ownsRow base e sz v n xs := by
  obtain ⟨h1, h2⟩ := h
  rcases h2 with h2 | ⟨g, cap, cur, hv, h3, h4, h5⟩
  · exact ⟨h1, .inl h2⟩
  · exact ⟨h1, .inr ⟨g, cap, cur, hv, h3, (Below.heap_setCell w a u g (by omega)).trans h4, h5⟩⟩
theorem IxR.drew {B base X m1 m2 : Nat} {bs : List UInt8} {tix t8 ti : TypeId} {w : World} {k : Nat} {vb vp : Value} {wr : World} (h : IxR B base X m1 m2 bs tix t8 ti w k vb vp wr) (q : Nat) : IxR B base X m1 m2 bs tix t8 ti w k vb vp (wr.drewN q) :=
  ⟨h.ix, h.rb, h.rp, h.last, h.cnt, below_drewN h.below q, h.bse, h.oth⟩
theorem hitsGo_upd (bs : List UInt8) (k : Nat) : upd (fun K => (hitsGo bs K k).head?.map fun p => (p : Int)) (key3 bs k) (k : Int) = fun K => (hitsGo bs K (k + 1)).head?.map fun p => (p : Int) := by
  funext K
  unfold upd
  rw [hitsGo]
  by_cases h : K = key3 bs k
  · rw [if_pos h, if_pos h.symm]
    rfl
  · rw [if_neg h, if_neg (fun e => h e.symm)]
theorem own_grownAt {w w' : World} {base sz n m : Nat} {e : TypeId} {v : Value} {xs : List Value} (h : w.ownsRow base e sz v n xs) (hg : w.grownBy w' (some m)) (hm : m < base) : w'.ownsRow base e sz v n xs := by
  obtain ⟨h1, h2⟩ := h
  rcases h2 with h2 | ⟨g, cap, cur, hv, h3, h4, h5⟩
  · exact ⟨h1, .inl h2⟩
  · exact ⟨h1, .inr ⟨g, cap, cur, hv, h3, (hg.block g (Array.getElem?_eq_some_iff.1 h4).1 (fun e => by cases e; omega)).trans h4, h5⟩⟩
theorem own_ne {w : World} {base sz n : Nat} {e : TypeId} {v : Value} {xs : List Value} (h : w.ownsRow base e sz v n xs) {m : Nat} (hm : m < base) : some m ≠ v.ownBlock := fun e' => by
  have := (h.lt m e'.symm).1
  omega
theorem own_neT {w : World} {base sz n q : Nat} {e t : TypeId} {v : Value} {xs vs : List Value} (h : w.ownsRow base e sz v n xs) (hb : Blk w q vs t) (ht : t ≠ e) : some q ≠ v.ownBlock := fun e' => by
  obtain ⟨h1, h2⟩ := h
  rcases h2 with ⟨rfl, _⟩ | ⟨g, cap, cur, rfl, h3, h4, h5⟩
  · cases e'
  · simp only [Value.ownBlock, Option.some.injEq] at e'
    subst e'
    have := (show _ = _ from hb).symm.trans h4
    simp only [Option.some.injEq, Obj.cells.injEq] at this
    exact ht this.2.1
theorem own_two {w w' : World} {base base' sz sz' n n' : Nat} {e e' : TypeId} {v v' : Value} {xs xs' : List Value} (h : w.ownsRow base e sz v n xs) (h' : w.ownsRow base' e' sz' v' n' xs') (ht : e ≠ e') (hg : w.grownBy w' v'.ownBlock) : w'.ownsRow base e sz v n xs := by
  obtain ⟨h1, h2⟩ := h
  rcases h2 with h2 | ⟨g, cap, cur, hv, h3, h4, h5⟩
  · exact ⟨h1, .inl h2⟩
  · have hb : Blk w g cur.toList e := by unfold Blk; simpa using h4
    exact ⟨h1, .inr ⟨g, cap, cur, hv, h3, (hg.block g (Array.getElem?_eq_some_iff.1 h4).1 (own_neT h' hb ht)).trans h4, h5⟩⟩
theorem blk_ne {w : World} {a b : Nat} {vs us : List Value} {t t' : TypeId} (h : Blk w a vs t) (h' : Blk w b us t') (ht : t ≠ t') : a ≠ b := fun e => by
  subst e
  have := (show _ = _ from h).symm.trans h'
  simp only [Option.some.injEq, Obj.cells.injEq] at this
  exact ht this.2.1
theorem kmap_ne {w : World} {a b : Nat} {vs : List Value} {t : TypeId} {F : Key3 → Option Int} (h : Blk w a vs t) (h' : KMap kv w b F) : a ≠ b := fun e => by
  subst e
  obtain ⟨es, clock, h1, _⟩ := h'
  have := (show _ = _ from h).symm.trans h1
  cases this
/-- A key's cells. -/
def kvl (K : Key3) : List Value := [bv K.1, bv K.2.1, bv K.2.2, bv 0, bv 0, bv 0, bv 0, bv 0]
end Go.Port
namespace Go.Proofs.Ytngphgdoolcpcaa
open Go.RowKit Go.Port

theorem Try.info_byte : (Try.prog.info? 5).map (fun i => (i.zero, i.size, i.bytes)) = some (some (.int .u8 0), 1, 1) := by kernel_rfl
theorem Try.info_int : (Try.prog.info? 3).map (fun i => (i.zero, i.size, i.bytes)) = some (some (.int .i64 0), 1, 8) := by kernel_rfl

theorem Try.zeroI : ∀ u : World, (zeroValue 3).run Try.prog u = .ok (.int .i64 0) u := fun _ => by kernel_rfl

set_option maxRecDepth 100000 in
set_option maxHeartbeats 4000000 in
theorem xadd_any (B X m1 m2 : Nat) (ab : Option Addr) (cb : Nat) (bs : List UInt8) (w : World) (hn : bs.length ≤ 1000000) (hnb : bs.length ≤ cb) (hab : ab = none → cb = 0) (hI : IxB B w.heap.size X m1 m2) (hB : B ≤ w.heap.size)
    (hX : Blk w X [.slice none 0 0, .int .i64 3, .map (some m1), .map (some m2), .slice none 0 0] 119) (hm1 : KMap kv w m1 (fun _ => none)) (hm2 : KMap kv w m2 (fun _ => none))
    (hc : ∀ j u, (bs.map bv)[j]? = some u → ∃ bl off, ab = some ⟨bl, off, none⟩ ∧ bl < w.heap.size ∧ w.cell? ⟨bl, off + j, none⟩ = some u) :
    Calls Try.prog 44 #[.pointer (some ⟨X, 0, none⟩), .slice ab bs.length cb] w fun e w' => e = .returned (.int .i64 0) ∧ ∃ vb vp, IxR B w.heap.size X m1 m2 bs 119 5 3 w (bs.length - 2) vb vp w' := by
  have HN := hid (xnone_any X _ 3 w hX rfl (by decide))
  have c0 := hX.cell (k := 0) rfl
  have c4 := hX.cell (k := 4) rfl
  have z0 := hX.frozen 0
  have hXlt := hX.lt
  have HX := hid hX
  have HM1 := hid hm1
  have HM2 := hid hm2
  have HC := hid hc
  have HI := hid hI
  clear hX hm1 hm2 hc hI
  go_enter Try.func44, Try.ntmps44
  go_wp2_with fail
  refine wp_scope_straight ?_
  go_wp2_with fail
  refine HN.out.mono ?_
  rintro e w' ⟨rfl, rfl⟩
  go_wp2_with (at_builtin; refine Hid.out ?_)
  refine hid ?_
  refine wpList_appendsK rfl _ _ 22 rfl 5 _ 1 1 Try.underlying22 Try.info_byte rfl (by decide) (by decide) w w.heap.size _ 0 bs.length cb ab [] (bs.map bv) (by simp) ?hu rfl rfl hnb hab (by exact HC.out) (by exact World.ownsRow_nil _ _ _ _) ?hn (Nat.le_refl _) ?hk
  case hu =>
    intro u hu
    obtain ⟨x, _, rfl⟩ := List.mem_map.1 hu
    rfl
  case hn => omega
  case hk =>
    intro v1 w1 hown1 hg1
    rw [List.nil_append, Nat.zero_add] at hown1
    have hB1 : Below w.heap.size w w1 := (Below.refl _ _).grown hg1 (Nat.le_refl _) (fun k hk => by cases hk)
    obtain ⟨av, cv, rfl⟩ := own_slice hown1
    have hX1 := HX.out.below hB1 HX.out.lt
    have c0 := hX1.cell (k := 0) rfl
    have c4 := hX1.cell (k := 4) rfl
    have z0 := hX1.frozen 0
    have hX1lt := hX1.lt
    have hS := hX1.set 0 (.slice av bs.length cv)
    have hR : IxR B w.heap.size X m1 m2 bs 119 5 3 w 0 (.slice av bs.length cv) (.slice none 0 0) (w1.setCell ⟨X, 0, none⟩ (.slice av bs.length cv)) := by
      refine ⟨hS, own_far hown1 _ HI.out.hX, World.ownsRow_nil _ _ _ _, ?_, ⟨_, (HM2.out.low hB1).set _ HI.out.hX2⟩, (hB1.mono hB).setCell (p := ⟨X, 0, none⟩) HI.out.bX _, ?_, fun b b1 b2 _ _ => (Below.heap_setCell w1 ⟨X, 0, none⟩ _ b b2).trans (hB1.block b b1)⟩
      · exact (HM1.out.low hB1).set _ HI.out.hX1
      · have := hB1.size
        simpa using this
    have HR := hid hR
    clear hR hS hown1 hg1 hB1 HM1 HM2 HX HC HN hX1
    go_wp2_with fail
    clear c0 c4 z0 hX1lt
    generalize w1.setCell ⟨X, 0, none⟩ (.slice av bs.length cv) = w2 at *
    go_loopg [5] bs.length (fun g t wr => ∃ (k : Nat) (vb vp : Value), k ≤ bs.length - 2 ∧ g + k = bs.length ∧ t = .int .i64 k ∧ IxR B w.heap.size X m1 m2 bs 119 5 3 w k vb vp wr)
    case atStart => exact ⟨0, _, _, Nat.zero_le _, rfl, rfl, HR.out⟩
    case round =>
      obtain ⟨k, vb, vp, hk, hgk, rfl, hR⟩ := hrel
      obtain ⟨avb, cvb, rfl⟩ := own_slice hR.rb
      obtain ⟨avp, cvp, rfl⟩ := own_slice hR.rp
      have c0 := hR.ix.cell (k := 0) rfl
      have c1 := hR.ix.cell (k := 1) rfl
      have c4 := hR.ix.cell (k := 4) rfl
      have HR2 := hid hR
      clear hR HR
      have hw3 : IntKind.i64.wrap ((k : Int) + 3) = (k : Int) + 3 := by rw [IntKind.wrap_i64]; omega
      by_cases hlt : k + 3 ≤ bs.length
      · have hd : decide ((k : Int) + 3 ≤ (bs.length : Int)) = true := decide_eq_true (by omega)
        go_wp2_with fail
        go_quiet (fail)
        clear hd
        go_wp2_with fail
        go_cut [6] (fun s wx => ∃ q, s = .pointer (some ⟨q, 0, none⟩) ∧ Blk wx q (kvl (key3 bs k)) 121 ∧ IxR B w.heap.size X m1 m2 bs 119 5 3 w k (.slice avb bs.length cvb) (.slice avp k cvp) wx)
        case first =>
          have HR3 := hid (HR2.out.drew nq)
          have HK := hid hlt
          clear HR2 c0 c1 c4 hgk
          generalize wr.drewN nq = W0 at *
          have hXlt := HR3.out.ix.lt
          have k0 := HR3.out.ix.cell (k := 0) rfl
          have k1 := HR3.out.ix.cell (k := 1) rfl
          obtain ⟨gb, capb, csb, hvb, hgb, hcapb, _, hblk, hcs⟩ := own_blk HR3.out.rb (by omega)
          cases hvb
          have hby : ∀ j, j < bs.length → W0.cell? ⟨gb, j, none⟩ = some (bv (bs.getD j 0)) := fun j hj => hblk.cell (by
            have h1 : (csb.take (bs.length * 1))[j]? = some (bv (bs.getD j 0)) := by
              rw [hcs, List.getElem?_map, List.getElem?_eq_getElem hj, List.getD_eq_getElem?_getD, List.getElem?_eq_getElem hj]
              rfl
            rwa [List.getElem?_take_of_lt (by omega)] at h1)
          have hgbl := hblk.lt
          have HF := hid (fun W (hW : Below W0.heap.size W0 W) => xfrom_any ⟨X, 0, none⟩ gb 0 bs.length cvb k W ((hW.cell (p := ⟨X, 0, none⟩) hXlt).trans k0) HK.out hcapb)
          have hkv := kv_eq (key3 bs k)
          have HO := hid (fun W (hW : Below W0.heap.size W0 W) => (show Calls Try.prog 65 #[.pointer (some ⟨X, 0, none⟩), .slice (some ⟨gb, k, none⟩) 3 3] W (RetV W (.agg #[.int .u8 ((key3 bs k).1.toNat : Int), .int .u8 ((key3 bs k).2.1.toNat : Int), .int .u8 ((key3 bs k).2.2.toNat : Int), .int .u8 0, .int .u8 0, .int .u8 0, .int .u8 0, .int .u8 0])) from by
            rw [← hkv]
            exact xof_any X _ gb k 3 (key3 bs k) W (HR3.out.ix.below hW hXlt) rfl (Nat.lt_of_lt_of_le hgbl hW.size) ((hW.cell (p := ⟨gb, k, none⟩) hgbl).trans (hby k (by omega))) ((hW.cell (p := ⟨gb, k + 1, none⟩) hgbl).trans (hby (k + 1) (by omega))) ((hW.cell (p := ⟨gb, k + 2, none⟩) hgbl).trans (hby (k + 2) (by omega)))))
          have HRl := hid (fun wf (hf : Below W0.heap.size W0 wf) => HR3.out.low hB hf)
          clear hblk hcs hby k0 hlt hkv
          refine wp_region_noPanic ?_
          have hB0 : Below W0.heap.size W0 W0.drew := (Below.refl _ _).drew
          refine wp_region_held_drew (S := fun W => Below W0.heap.size W0 W) (by kernel_rfl) hB0 (fun hHeld => ?_)
          refine wpAnyH_take (i := 0) (v := .pointer (some ⟨X, 0, none⟩)) (by simp only [List.getElem?_toArray, List.getElem?_cons_zero]; rfl) (by kernel_rfl) (by kernel_rfl) (by kernel_rfl) (fun _ _ _ h => h) (Or.inl ⟨by rfl, fun W hSw => ?_⟩) (by assumption) ?_
          · clear hSw
            go_simp
          simp only [Act.put, List.setIfInBounds_toArray, List.set_cons_zero, List.set_cons_succ]
          refine wpAnyH_take (i := 1) (v := .pointer (some ⟨X, 0, none⟩)) (by simp only [List.getElem?_toArray, List.getElem?_cons_zero, List.getElem?_cons_succ]; rfl) (by kernel_rfl) (by kernel_rfl) (by kernel_rfl) (fun _ _ _ h => h) (Or.inl ⟨by rfl, fun W hSw => ?_⟩) (by assumption) ?_
          · clear hSw
            go_simp
          simp only [Act.put, List.setIfInBounds_toArray, List.set_cons_zero, List.set_cons_succ]
          refine wpAnyH_take (i := 2) (v := .pointer (some ⟨X, 0, none⟩)) (by simp only [List.getElem?_toArray, List.getElem?_cons_zero, List.getElem?_cons_succ]; rfl) (by kernel_rfl) (by kernel_rfl) (by kernel_rfl) (fun _ _ _ h => h) (Or.inl ⟨by rfl, fun W hSw => ?_⟩) (by assumption) ?_
          · clear hSw
            go_simp
          simp only [Act.put, List.setIfInBounds_toArray, List.set_cons_zero, List.set_cons_succ]
          refine wpAnyH_take (i := 3) (v := .pointer (some ⟨X, 0, none⟩)) (by simp only [List.getElem?_toArray, List.getElem?_cons_zero, List.getElem?_cons_succ]; rfl) (by kernel_rfl) (by kernel_rfl) (by kernel_rfl) (fun _ _ _ h => h) (Or.inl ⟨by rfl, fun W hSw => ?_⟩) (by assumption) ?_
          · clear hSw
            go_simp
          simp only [Act.put, List.setIfInBounds_toArray, List.set_cons_zero, List.set_cons_succ]
          refine wpAnyH_take (i := 4) (v := .int .i64 (k : Int)) (by simp only [List.getElem?_toArray, List.getElem?_cons_zero, List.getElem?_cons_succ]; rfl) (by kernel_rfl) (by kernel_rfl) (by kernel_rfl) (fun _ _ _ h => h) (Or.inl ⟨by rfl, fun W hSw => ?_⟩) (by assumption) ?_
          · clear hSw
            go_simp
          simp only [Act.put, List.setIfInBounds_toArray, List.set_cons_zero, List.set_cons_succ]
          refine wpAnyH_take (i := 5) (v := .int .i64 (k : Int)) (by simp only [List.getElem?_toArray, List.getElem?_cons_zero, List.getElem?_cons_succ]; rfl) (by kernel_rfl) (by kernel_rfl) (by kernel_rfl) (fun _ _ _ h => h) (Or.inl ⟨by rfl, fun W hSw => ?_⟩) (by assumption) ?_
          · clear hSw
            go_simp
          simp only [Act.put, List.setIfInBounds_toArray, List.set_cons_zero, List.set_cons_succ]
          refine wpAnyH_take (i := 6) (v := .pointer (some ⟨X, 0, none⟩)) (by simp only [List.getElem?_toArray, List.getElem?_cons_zero, List.getElem?_cons_succ]; rfl) (by kernel_rfl) (by kernel_rfl) (by kernel_rfl) (fun _ _ _ h => h) (Or.inl ⟨by rfl, fun W hSw => ?_⟩) (by assumption) ?_
          · clear hSw
            go_simp
          simp only [Act.put, List.setIfInBounds_toArray, List.set_cons_zero, List.set_cons_succ]
          refine wpAnyH_take (i := 7) (v := .pointer (some ⟨X, 0, none⟩)) (by simp only [List.getElem?_toArray, List.getElem?_cons_zero, List.getElem?_cons_succ]; rfl) (by kernel_rfl) (by kernel_rfl) (by kernel_rfl) (fun _ _ _ h => h) (Or.inl ⟨by rfl, fun W hSw => ?_⟩) (by assumption) ?_
          · clear hSw
            go_simp
          simp only [Act.put, List.setIfInBounds_toArray, List.set_cons_zero, List.set_cons_succ]
          refine wpAnyH_take (i := 8) (v := .pointer (some ⟨X, 1, none⟩)) (by simp only [List.getElem?_toArray, List.getElem?_cons_zero, List.getElem?_cons_succ]; rfl) (by kernel_rfl) (by kernel_rfl) (by kernel_rfl) (fun _ _ _ h => h) (Or.inl ⟨by rfl, fun W hSw => ?_⟩) (by assumption) ?_
          · clear hSw
            go_simp
          simp only [Act.put, List.setIfInBounds_toArray, List.set_cons_zero, List.set_cons_succ]
          refine wpAnyH_take (i := 9) (v := .int .i64 3) (by simp only [List.getElem?_toArray, List.getElem?_cons_zero, List.getElem?_cons_succ]; rfl) (by kernel_rfl) (by kernel_rfl) (by kernel_rfl) (fun _ _ _ h => h) (Or.inl ⟨by rfl, fun W hSw => ?_⟩) (by assumption) ?_
          · have hcw := (Below.cell (p := ⟨X, 1, none⟩) hSw hXlt).trans k1
            go_simp
          simp only [Act.put, List.setIfInBounds_toArray, List.set_cons_zero, List.set_cons_succ]
          refine wpAnyH_take (i := 10) (v := .int .i64 ((k : Int) + 3)) (by simp only [List.getElem?_toArray, List.getElem?_cons_zero, List.getElem?_cons_succ]; rfl) (by kernel_rfl) (by kernel_rfl) (by kernel_rfl) (fun _ _ _ h => h) (Or.inl ⟨by rfl, fun W hSw => ?_⟩) (by assumption) ?_
          · clear hSw
            go_simp
          simp only [Act.put, List.setIfInBounds_toArray, List.set_cons_zero, List.set_cons_succ]
          refine wpAnyH_ready (rs := [11, 13]) (by kernel_rfl) (by simp) ?_
          refine AllReadyH.cons (by simp only [List.getElem?_toArray, List.getElem?_cons_zero, List.getElem?_cons_succ]; rfl) (fun K hK => ?_) (AllReadyH.cons (by simp only [List.getElem?_toArray, List.getElem?_cons_zero, List.getElem?_cons_succ]; rfl) (fun K hK => ?_) AllReadyH.nil)
          · rw [if_pos (by rfl)]
            go_simp
            go_at_call 66
            refine (HF.out _ hB0).mono ?_
            rintro e w' ⟨rfl, rfl⟩
            dsimp only
            refine hK.out _ _ hB0 (fun _ => ?_)
            clear hK K
            refine wpAnyH_ready (rs := [12, 13]) (by kernel_rfl) (by simp) ?_
            refine AllReadyH.cons (by simp only [List.getElem?_toArray, List.getElem?_cons_zero, List.getElem?_cons_succ]; rfl) (fun K hK => ?_) (AllReadyH.cons (by simp only [List.getElem?_toArray, List.getElem?_cons_zero, List.getElem?_cons_succ]; rfl) (fun K hK => ?_) AllReadyH.nil)
            · rw [if_pos (by rfl)]
              go_simp
              go_at_call 65
              refine (HO.out _ hB0).mono ?_
              rintro e w5 ⟨rfl, hb5⟩
              dsimp only
              have hB5 := hB0.trans (hb5.mono hB0.size)
              refine hK.out _ _ hB5 (fun _ => ?_)
              clear hK K
              refine wpAnyH_ready (rs := [13]) (by kernel_rfl) (by simp) ?_
              refine AllReadyH.cons (by simp only [List.getElem?_toArray, List.getElem?_cons_zero, List.getElem?_cons_succ]; rfl) (fun K hK => ?_) AllReadyH.nil
              rw [if_pos (by rfl)]
              go_simp
              have hB6 := hB5.alloc hB5.size (.cells #[.int .u8 0, .int .u8 0, .int .u8 0, .int .u8 0, .int .u8 0, .int .u8 0, .int .u8 0, .int .u8 0] 121)
              refine hK.out _ _ hB6 (fun _ => ?_)
              clear hK K
              refine wpAnyH_ready (rs := [14]) (by kernel_rfl) (by simp) ?_
              refine AllReadyH.cons (by simp only [List.getElem?_toArray, List.getElem?_cons_zero, List.getElem?_cons_succ]; rfl) (fun K hK => ?_) AllReadyH.nil
              rw [if_pos (by rfl)]
              go_simp
              have hB7 := hB5.alloc hB5.size (.cells #[.int .u8 ((key3 bs k).1.toNat : Int), .int .u8 ((key3 bs k).2.1.toNat : Int), .int .u8 ((key3 bs k).2.2.toNat : Int), .int .u8 0, .int .u8 0, .int .u8 0, .int .u8 0, .int .u8 0] 121)
              have hbl := Blk.new w5 [.int .u8 ((key3 bs k).1.toNat : Int), .int .u8 ((key3 bs k).2.1.toNat : Int), .int .u8 ((key3 bs k).2.2.toNat : Int), .int .u8 0, .int .u8 0, .int .u8 0, .int .u8 0, .int .u8 0] 121
              refine hK.out _ _ hB7 (fun _ => ?_)
              clear hK K
              refine wpAnyH_done (by kernel_rfl) ?_ _
              refine NoPanic.normal ?_
              go_wp2
              go_meet
              exact ⟨_, rfl, hbl, HRl.out _ hB7⟩
            · rw [if_pos (by rfl)]
              go_simp
              have hB5 := hB0.alloc hB0.size (.cells #[.int .u8 0, .int .u8 0, .int .u8 0, .int .u8 0, .int .u8 0, .int .u8 0, .int .u8 0, .int .u8 0] 121)
              refine hK.out _ _ hB5 (fun _ => ?_)
              clear hK K
              refine wpAnyH_ready (rs := [12]) (by kernel_rfl) (by simp) ?_
              refine AllReadyH.cons (by simp only [List.getElem?_toArray, List.getElem?_cons_zero, List.getElem?_cons_succ]; rfl) (fun K hK => ?_) AllReadyH.nil
              rw [if_pos (by rfl)]
              go_simp
              go_at_call 65
              refine (HO.out _ hB5).mono ?_
              rintro e w5 ⟨rfl, hb5⟩
              dsimp only
              have hB6 := hB5.trans (hb5.mono hB5.size)
              refine hK.out _ _ hB6 (fun _ => ?_)
              clear hK K
              have hbl : Blk w5 W0.heap.size [.int .u8 0, .int .u8 0, .int .u8 0, .int .u8 0, .int .u8 0, .int .u8 0, .int .u8 0, .int .u8 0] 121 := (Blk.new W0.drew [.int .u8 0, .int .u8 0, .int .u8 0, .int .u8 0, .int .u8 0, .int .u8 0, .int .u8 0, .int .u8 0] 121).below hb5 (by simp)
              have d0 := hbl.cell (k := 0) rfl
              have d1 := hbl.cell (k := 1) rfl
              have d2 := hbl.cell (k := 2) rfl
              have d3 := hbl.cell (k := 3) rfl
              have d4 := hbl.cell (k := 4) rfl
              have d5 := hbl.cell (k := 5) rfl
              have d6 := hbl.cell (k := 6) rfl
              have d7 := hbl.cell (k := 7) rfl
              have dz := fun k => hbl.frozen k
              have HBl := hid hbl
              clear hbl hb5
              refine wpAnyH_ready (rs := [14]) (by kernel_rfl) (by simp) ?_
              refine AllReadyH.cons (by simp only [List.getElem?_toArray, List.getElem?_cons_zero, List.getElem?_cons_succ]; rfl) (fun K hK => ?_) AllReadyH.nil
              rw [if_pos (by rfl)]
              go_simp
              have hB7 := ((((((((hB6.setCell (p := ⟨W0.heap.size, 0, none⟩) (Nat.le_refl _) (.int .u8 ((key3 bs k).1.toNat : Int))).setCell (p := ⟨W0.heap.size, 1, none⟩) (Nat.le_refl _) (.int .u8 ((key3 bs k).2.1.toNat : Int))).setCell (p := ⟨W0.heap.size, 2, none⟩) (Nat.le_refl _) (.int .u8 ((key3 bs k).2.2.toNat : Int))).setCell (p := ⟨W0.heap.size, 3, none⟩) (Nat.le_refl _) (.int .u8 0)).setCell (p := ⟨W0.heap.size, 4, none⟩) (Nat.le_refl _) (.int .u8 0)).setCell (p := ⟨W0.heap.size, 5, none⟩) (Nat.le_refl _) (.int .u8 0)).setCell (p := ⟨W0.heap.size, 6, none⟩) (Nat.le_refl _) (.int .u8 0)).setCell (p := ⟨W0.heap.size, 7, none⟩) (Nat.le_refl _) (.int .u8 0))
              have hbl := ((((((((HBl.out.set 0 (.int .u8 ((key3 bs k).1.toNat : Int))).set 1 (.int .u8 ((key3 bs k).2.1.toNat : Int))).set 2 (.int .u8 ((key3 bs k).2.2.toNat : Int))).set 3 (.int .u8 0)).set 4 (.int .u8 0)).set 5 (.int .u8 0)).set 6 (.int .u8 0)).set 7 (.int .u8 0))
              refine hK.out _ _ hB7 (fun _ => ?_)
              clear hK K
              refine wpAnyH_done (by kernel_rfl) ?_ _
              refine NoPanic.normal ?_
              go_wp2
              go_meet
              exact ⟨_, rfl, hbl, HRl.out _ hB7⟩
          · rw [if_pos (by rfl)]
            go_simp
            have hB5 := hB0.alloc hB0.size (.cells #[.int .u8 0, .int .u8 0, .int .u8 0, .int .u8 0, .int .u8 0, .int .u8 0, .int .u8 0, .int .u8 0] 121)
            refine hK.out _ _ hB5 (fun _ => ?_)
            clear hK K
            refine wpAnyH_ready (rs := [11]) (by kernel_rfl) (by simp) ?_
            refine AllReadyH.cons (by simp only [List.getElem?_toArray, List.getElem?_cons_zero, List.getElem?_cons_succ]; rfl) (fun K hK => ?_) AllReadyH.nil
            rw [if_pos (by rfl)]
            go_simp
            go_at_call 66
            refine (HF.out _ hB5).mono ?_
            rintro e w' ⟨rfl, rfl⟩
            dsimp only
            refine hK.out _ _ hB5 (fun _ => ?_)
            clear hK K
            refine wpAnyH_ready (rs := [12]) (by kernel_rfl) (by simp) ?_
            refine AllReadyH.cons (by simp only [List.getElem?_toArray, List.getElem?_cons_zero, List.getElem?_cons_succ]; rfl) (fun K hK => ?_) AllReadyH.nil
            rw [if_pos (by rfl)]
            go_simp
            go_at_call 65
            refine (HO.out _ hB5).mono ?_
            rintro e w5 ⟨rfl, hb5⟩
            dsimp only
            have hB6 := hB5.trans (hb5.mono hB5.size)
            refine hK.out _ _ hB6 (fun _ => ?_)
            clear hK K
            have hbl : Blk w5 W0.heap.size [.int .u8 0, .int .u8 0, .int .u8 0, .int .u8 0, .int .u8 0, .int .u8 0, .int .u8 0, .int .u8 0] 121 := (Blk.new W0.drew [.int .u8 0, .int .u8 0, .int .u8 0, .int .u8 0, .int .u8 0, .int .u8 0, .int .u8 0, .int .u8 0] 121).below hb5 (by simp)
            have d0 := hbl.cell (k := 0) rfl
            have d1 := hbl.cell (k := 1) rfl
            have d2 := hbl.cell (k := 2) rfl
            have d3 := hbl.cell (k := 3) rfl
            have d4 := hbl.cell (k := 4) rfl
            have d5 := hbl.cell (k := 5) rfl
            have d6 := hbl.cell (k := 6) rfl
            have d7 := hbl.cell (k := 7) rfl
            have dz := fun k => hbl.frozen k
            have HBl := hid hbl
            clear hbl hb5
            refine wpAnyH_ready (rs := [14]) (by kernel_rfl) (by simp) ?_
            refine AllReadyH.cons (by simp only [List.getElem?_toArray, List.getElem?_cons_zero, List.getElem?_cons_succ]; rfl) (fun K hK => ?_) AllReadyH.nil
            rw [if_pos (by rfl)]
            go_simp
            have hB7 := ((((((((hB6.setCell (p := ⟨W0.heap.size, 0, none⟩) (Nat.le_refl _) (.int .u8 ((key3 bs k).1.toNat : Int))).setCell (p := ⟨W0.heap.size, 1, none⟩) (Nat.le_refl _) (.int .u8 ((key3 bs k).2.1.toNat : Int))).setCell (p := ⟨W0.heap.size, 2, none⟩) (Nat.le_refl _) (.int .u8 ((key3 bs k).2.2.toNat : Int))).setCell (p := ⟨W0.heap.size, 3, none⟩) (Nat.le_refl _) (.int .u8 0)).setCell (p := ⟨W0.heap.size, 4, none⟩) (Nat.le_refl _) (.int .u8 0)).setCell (p := ⟨W0.heap.size, 5, none⟩) (Nat.le_refl _) (.int .u8 0)).setCell (p := ⟨W0.heap.size, 6, none⟩) (Nat.le_refl _) (.int .u8 0)).setCell (p := ⟨W0.heap.size, 7, none⟩) (Nat.le_refl _) (.int .u8 0))
            have hbl := ((((((((HBl.out.set 0 (.int .u8 ((key3 bs k).1.toNat : Int))).set 1 (.int .u8 ((key3 bs k).2.1.toNat : Int))).set 2 (.int .u8 ((key3 bs k).2.2.toNat : Int))).set 3 (.int .u8 0)).set 4 (.int .u8 0)).set 5 (.int .u8 0)).set 6 (.int .u8 0)).set 7 (.int .u8 0))
            refine hK.out _ _ hB7 (fun _ => ?_)
            clear hK K
            refine wpAnyH_done (by kernel_rfl) ?_ _
            refine NoPanic.normal ?_
            go_wp2
            go_meet
            exact ⟨_, rfl, hbl, HRl.out _ hB7⟩
        case rest =>
          obtain ⟨q, rfl, hq, hR⟩ := hcut
          have hkl : kvl (key3 bs k) = [.int .u8 ((key3 bs k).1.toNat : Int), .int .u8 ((key3 bs k).2.1.toNat : Int), .int .u8 ((key3 bs k).2.2.toNat : Int), .int .u8 0, .int .u8 0, .int .u8 0, .int .u8 0, .int .u8 0] := by
            unfold kvl bv
            rfl
          rw [hkl] at hq
          have hkv := kv_eq (key3 bs k)
          have hlk : ∃ (pv : Int) (is : Bool), (fun n => (Instr.lookup 115 (.map (some m1)) (.agg #[.int .u8 ((key3 bs k).1.toNat : Int), .int .u8 ((key3 bs k).2.1.toNat : Int), .int .u8 ((key3 bs k).2.2.toNat : Int), .int .u8 0, .int .u8 0, .int .u8 0, .int .u8 0, .int .u8 0]) true).run Try.prog (wc.drewN n)) = (fun n => .ok (.tuple #[.int .i64 pv, .bool is]) (wc.drewN n)) ∧ (if is then pv else -1) = prevI bs k ∧ -1 ≤ pv ∧ pv ≤ 1000000 := by
            have h1 := fun n => KMap.look (w := wc.drewN n) hR.last Try.keyLaw Try.underlying115 Try.zeroI Try.keyed kv_inj (key3 bs k) true
            refine ⟨_, _, funext fun n => by rw [← hkv]; exact h1 n, ?_, ?_⟩
            · unfold prevI hits
              cases (hitsGo bs (key3 bs k) k).head? <;> rfl
            · cases hh : (hitsGo bs (key3 bs k) k).head? with
              | none => simp
              | some p =>
                have := (hitsGo_lt bs _ k p (List.mem_of_mem_head? hh)).1
                simp
                omega
          obtain ⟨pv, is, hlk, hpv, hpv1, hpv2⟩ := hlk
          have HPv := hid hpv
          have hlk := fun n => congrFun hlk n
          have q0 := hq.cell (k := 0) rfl
          have q1 := hq.cell (k := 1) rfl
          have q2 := hq.cell (k := 2) rfl
          have q3 := hq.cell (k := 3) rfl
          have q4 := hq.cell (k := 4) rfl
          have q5 := hq.cell (k := 5) rfl
          have q6 := hq.cell (k := 6) rfl
          have q7 := hq.cell (k := 7) rfl
          have k2 := hR.ix.cell (k := 2) rfl
          have HQ := hid hq
          have HR4 := hid hR
          have HK := hid hlt
          clear hq hR HR2 c0 c1 c4 hpv hkl hkv hlt
          go_wp2_with fail
          go_quiet (fail)
          have HR5 := hid (HR4.out.drew nq)
          have HQ5 := hid (show Blk (wc.drewN nq) q _ 121 from HQ.out)
          clear HR4 HQ hlk q0 q1 q2 q3 q4 q5 q6 q7 k2
          generalize wc.drewN nq = W8 at *
          go_upto_if 65 with (fail)
          go_cut [7] (fun s wx => s = .int .i64 (prevI bs k) ∧ wx = W8)
          case first =>
            cases is with
            | true =>
              go_wp2_with fail
              go_meet
              exact ⟨by rw [← HPv.out]; rfl, rfl⟩
            | false =>
              go_wp2_with fail
              go_meet
              exact ⟨by rw [← HPv.out]; rfl, rfl⟩
          case rest =>
            obtain ⟨rfl, rfl⟩ := hcut
            have hpb := prevI_bound bs k
            have k4 := HR5.out.ix.cell (k := 4) rfl
            have hXlt := HR5.out.ix.lt
            clear HPv
            generalize hpk : prevI bs k = pk at *
            have HPK := hid hpk
            clear hpk
            go_wp2_with (at_builtin; refine Hid.out ?_)
            refine hid ?_
            refine wpList_append1 rfl _ _ 49 rfl 3 _ 1 8 Try.underlying49 Try.info_int rfl (by decide) (by decide) _ w.heap.size _ _ _ [.int .i64 pk] rfl ?hu rfl rfl (by exact HR5.out.rp) ?hn HR5.out.bse ?hk
            case hu => simp [Value.oneCell']
            case hn => have := HK.out; omega
            case hk =>
              intro v' w3 hown' hg
              obtain ⟨av', cv', rfl⟩ := own_slice hown'
              have hxg := HR5.out.ix.grown hg (own_ne HR5.out.rp HI.out.hX)
              have hqg := HQ5.out.grown hg (own_neT HR5.out.rp HQ5.out (by decide))
              have hqX := blk_ne HQ5.out HR5.out.ix (by decide)
              have hrb := own_far (own_two HR5.out.rb HR5.out.rp (by decide) hg) (a := ⟨X, 4, none⟩) (.slice av' (k + 1) cv') HI.out.hX
              have hrp := own_far hown' (a := ⟨X, 4, none⟩) (.slice av' (k + 1) cv') HI.out.hX
              have hla := (HR5.out.last.grown hg (own_ne HR5.out.rp HI.out.h1)).set (a := ⟨X, 4, none⟩) (.slice av' (k + 1) cv') HI.out.hX1
              have hcn : ∃ F, KMap kv (w3.setCell ⟨X, 4, none⟩ (.slice av' (k + 1) cv')) m2 F := by
                obtain ⟨F, hF⟩ := HR5.out.cnt
                exact ⟨F, (hF.grown hg (own_ne HR5.out.rp HI.out.h2)).set (a := ⟨X, 4, none⟩) _ HI.out.hX2⟩
              have hbe : Below B w w3 := HR5.out.below.grown hg (Nat.le_trans hB HR5.out.bse) (fun m hm => Nat.le_trans hB (HR5.out.rp.lt m hm).1)
              have hbe2 := hbe.setCell (p := ⟨X, 4, none⟩) HI.out.bX (.slice av' (k + 1) cv')
              have hbs : w.heap.size ≤ (w3.setCell ⟨X, 4, none⟩ (.slice av' (k + 1) cv')).heap.size := by
                have := hg.size
                have := HR5.out.bse
                simp
                omega
              have hot : ∀ b, b < w.heap.size → b ≠ X → b ≠ m1 → b ≠ m2 → (w3.setCell ⟨X, 4, none⟩ (.slice av' (k + 1) cv')).heap[b]? = w.heap[b]? := fun b b1 b2 b3 b4 =>
                (Below.heap_setCell w3 ⟨X, 4, none⟩ _ b b2).trans ((hg.block b (Nat.lt_of_lt_of_le b1 HR5.out.bse) (own_ne HR5.out.rp b1)).trans (HR5.out.oth b b1 b2 b3 b4))
              have hxs := hxg.set 4 (.slice av' (k + 1) cv')
              have hqs := hqg.other (a := ⟨X, 4, none⟩) (.slice av' (k + 1) cv') (Ne.symm hqX)
              have HP11 := hid (And.intro hxs (And.intro hrb (And.intro hrp (And.intro hla (And.intro hcn (And.intro hbe2 (And.intro hbs (And.intro hqs hot))))))))
              have x4 := hxg.cell (k := 4) rfl
              have x4z := hxg.frozen 4
              clear hot hxs hqs hbs hbe2 hbe hcn hla hrp hrb hqX hqg hxg hown' hg k4 HR5 HQ5
              go_wp2_with fail
              generalize w3.setCell ⟨X, 4, none⟩ (.slice av' (k + 1) cv') = W11 at *
              obtain ⟨hix, hrb, hrp, hla, hcn, hbe, hbs, hqs, hot⟩ := HP11.out
              have hkv := kv_eq (key3 bs k)
              obtain ⟨W12, hrun, hm12, hg12⟩ := KMap.store (w := W11.drew) hla Try.keyLaw Try.underlying115 Try.keyed kv_inj (key3 bs k) (k : Int)
              rw [hkv] at hrun
              rw [hitsGo_upd] at hm12
              have hix12 : Blk W12 X _ 119 := Blk.grown (w := W11.drew) hix hg12 (fun e => by cases e; exact HI.out.hX1 rfl)
              have hq12 : Blk W12 q _ 121 := Blk.grown (w := W11.drew) hqs hg12 (fun e => by cases e; exact kmap_ne hqs hla rfl)
              have hrb12 := own_grownAt (w := W11.drew) hrb hg12 HI.out.h1
              have hrp12 := own_grownAt (w := W11.drew) hrp hg12 HI.out.h1
              have hcn12 : ∃ F, KMap kv W12 m2 F := by
                obtain ⟨F, hF⟩ := hcn
                exact ⟨F, KMap.grown (w := W11.drew) hF hg12 (fun e => by cases e; exact HI.out.h12 rfl)⟩
              have hbe12 : Below B w W12 := (show Below B w W11.drew from hbe.drew).grown hg12 (show B ≤ W11.heap.size from Nat.le_trans hB hbs) (fun m hm => by cases hm; exact HI.out.b1)
              have hbs12 : w.heap.size ≤ W12.heap.size := Nat.le_trans hbs hg12.size
              have hot12 : ∀ b, b < w.heap.size → b ≠ X → b ≠ m1 → b ≠ m2 → W12.heap[b]? = w.heap[b]? := fun b b1 b2 b3 b4 => (hg12.block b (Nat.lt_of_lt_of_le b1 hbs) (fun e => by cases e; exact b3 rfl)).trans (hot b b1 b2 b3 b4)
              have HP12 := hid (And.intro hix12 (And.intro hrb12 (And.intro hrp12 (And.intro hm12 (And.intro hcn12 (And.intro hbe12 (And.intro hbs12 (And.intro hq12 hot12))))))))
              refine wp_region_noPanic ?_
              have hS0 : Blk W11.drew X [.slice avb bs.length cvb, .int .i64 3, .map (some m1), .map (some m2), .slice av' (k + 1) cv'] 119 ∧ Blk W11.drew q [.int .u8 ((key3 bs k).1.toNat : Int), .int .u8 ((key3 bs k).2.1.toNat : Int), .int .u8 ((key3 bs k).2.2.toNat : Int), .int .u8 0, .int .u8 0, .int .u8 0, .int .u8 0, .int .u8 0] 121 ∧ True := ⟨hix, hqs, trivial⟩
              have hS1 : Blk W12 X [.slice avb bs.length cvb, .int .i64 3, .map (some m1), .map (some m2), .slice av' (k + 1) cv'] 119 ∧ Blk W12 q [.int .u8 ((key3 bs k).1.toNat : Int), .int .u8 ((key3 bs k).2.1.toNat : Int), .int .u8 ((key3 bs k).2.2.toNat : Int), .int .u8 0, .int .u8 0, .int .u8 0, .int .u8 0, .int .u8 0] 121 ∧ True := ⟨hix12, hq12, trivial⟩
              clear hot hot12 hix12 hq12 hrb12 hrp12 hm12 hcn12 hbe12 hbs12 hix hrb hrp hla hcn hbe hbs hqs hkv HP11 hg12
              refine wp_region_held_drew (S := fun W => Blk W X [.slice avb bs.length cvb, .int .i64 3, .map (some m1), .map (some m2), .slice av' (k + 1) cv'] 119 ∧ Blk W q [.int .u8 ((key3 bs k).1.toNat : Int), .int .u8 ((key3 bs k).2.1.toNat : Int), .int .u8 ((key3 bs k).2.2.toNat : Int), .int .u8 0, .int .u8 0, .int .u8 0, .int .u8 0, .int .u8 0] 121 ∧ True) (by kernel_rfl) hS0 (fun hHeld => ?_)
              refine wpAnyH_take (i := 0) (v := .pointer (some ⟨X, 0, none⟩)) (by simp only [List.getElem?_toArray, List.getElem?_cons_zero]; rfl) (by kernel_rfl) (by kernel_rfl) (by kernel_rfl) (fun _ _ _ h => h) (Or.inl ⟨by rfl, fun W hSw => ?_⟩) (by assumption) ?_
              · clear hSw
                go_simp
              simp only [Act.put, List.setIfInBounds_toArray, List.set_cons_zero, List.set_cons_succ]
              refine wpAnyH_take (i := 1) (v := .pointer (some ⟨X, 0, none⟩)) (by simp only [List.getElem?_toArray, List.getElem?_cons_zero, List.getElem?_cons_succ]; rfl) (by kernel_rfl) (by kernel_rfl) (by kernel_rfl) (fun _ _ _ h => h) (Or.inl ⟨by rfl, fun W hSw => ?_⟩) (by assumption) ?_
              · clear hSw
                go_simp
              simp only [Act.put, List.setIfInBounds_toArray, List.set_cons_zero, List.set_cons_succ]
              refine wpAnyH_take (i := 2) (v := .pointer (some ⟨X, 2, none⟩)) (by simp only [List.getElem?_toArray, List.getElem?_cons_zero, List.getElem?_cons_succ]; rfl) (by kernel_rfl) (by kernel_rfl) (by kernel_rfl) (fun _ _ _ h => h) (Or.inl ⟨by rfl, fun W hSw => ?_⟩) (by assumption) ?_
              · clear hSw
                go_simp
              simp only [Act.put, List.setIfInBounds_toArray, List.set_cons_zero, List.set_cons_succ]
              refine wpAnyH_take (i := 3) (v := .map (some m1)) (by simp only [List.getElem?_toArray, List.getElem?_cons_zero, List.getElem?_cons_succ]; rfl) (by kernel_rfl) (by kernel_rfl) (by kernel_rfl) (fun _ _ _ h => h) (Or.inl ⟨by rfl, fun W hSw => ?_⟩) (by assumption) ?_
              · have hcw := hSw.1.cell (k := 2) rfl
                go_simp
              simp only [Act.put, List.setIfInBounds_toArray, List.set_cons_zero, List.set_cons_succ]
              refine wpAnyH_take (i := 4) (v := .agg #[.int .u8 ((key3 bs k).1.toNat : Int), .int .u8 ((key3 bs k).2.1.toNat : Int), .int .u8 ((key3 bs k).2.2.toNat : Int), .int .u8 0, .int .u8 0, .int .u8 0, .int .u8 0, .int .u8 0]) (by simp only [List.getElem?_toArray, List.getElem?_cons_zero, List.getElem?_cons_succ]; rfl) (by kernel_rfl) (by kernel_rfl) (by kernel_rfl) (fun _ _ _ h => h) (Or.inl ⟨by rfl, fun W hSw => ?_⟩) (by assumption) ?_
              · have hq0 := hSw.2.1.cell (k := 0) rfl
                have hq1 := hSw.2.1.cell (k := 1) rfl
                have hq2 := hSw.2.1.cell (k := 2) rfl
                have hq3 := hSw.2.1.cell (k := 3) rfl
                have hq4 := hSw.2.1.cell (k := 4) rfl
                have hq5 := hSw.2.1.cell (k := 5) rfl
                have hq6 := hSw.2.1.cell (k := 6) rfl
                have hq7 := hSw.2.1.cell (k := 7) rfl
                go_simp
              simp only [Act.put, List.setIfInBounds_toArray, List.set_cons_zero, List.set_cons_succ]
              refine wpAnyH_take (i := 5) (v := .int .i64 (k : Int)) (by simp only [List.getElem?_toArray, List.getElem?_cons_zero, List.getElem?_cons_succ]; rfl) (by kernel_rfl) (by kernel_rfl) (by kernel_rfl) (fun _ _ _ h => h) (Or.inl ⟨by rfl, fun W hSw => ?_⟩) (by assumption) ?_
              · clear hSw
                go_simp
              simp only [Act.put, List.setIfInBounds_toArray, List.set_cons_zero, List.set_cons_succ]
              refine wpAnyH_ready (rs := [6]) (by kernel_rfl) (by simp) ?_
              refine AllReadyH.cons (by simp only [List.getElem?_toArray, List.getElem?_cons_zero, List.getElem?_cons_succ]; rfl) (fun K hK => ?_) AllReadyH.nil
              rw [if_pos (by rfl)]
              go_simp
              refine hK.out _ _ hS1 (fun _ => ?_)
              clear hK K
              refine wpAnyH_done (by kernel_rfl) ?_ _
              refine NoPanic.normal ?_
              clear hS0 hS1 hrun
              go_wp2_with fail
              obtain ⟨hix, hrb, hrp, hla, hcn, hbe, hbs, hqs, hot⟩ := HP12.out
              obtain ⟨F, hF⟩ := hcn
              have hkv := kv_eq (key3 bs k)
              have hl0 := KMap.look (w := W12.drew) hF Try.keyLaw Try.underlying115 Try.zeroI Try.keyed kv_inj (key3 bs k) false
              obtain ⟨st, W13, hrun, hg13, hm13, hst⟩ := KMap.entry (w := W12.drew) hF Try.keyLaw Try.underlying115 Try.zeroI Try.keyed kv_inj (key3 bs k)
              have hl1 := KMap.look (w := W13) hm13 Try.keyLaw Try.underlying115 Try.zeroI Try.keyed kv_inj (key3 bs k) false
              rw [upd_same] at hl1
              simp only [Option.getD_some, if_false, Bool.false_eq_true] at hl0 hl1
              obtain ⟨W14, hrun2, hm14, hg14⟩ := hst W13 (IntKind.i64.wrap ((F (key3 bs k)).getD 0 + 1)) rfl
              have hl2 := KMap.look (w := W14) hm14 Try.keyLaw Try.underlying115 Try.zeroI Try.keyed kv_inj (key3 bs k) false
              rw [hkv] at hrun hl0 hl1
              have hix13 : Blk W13 X _ 119 := Blk.grown (w := W12.drew) hix hg13 (fun e => by cases e; exact HI.out.hX2 rfl)
              have hq13 : Blk W13 q _ 121 := Blk.grown (w := W12.drew) hqs hg13 (fun e => by cases e; exact kmap_ne hqs hF rfl)
              have hix14 : Blk W14 X _ 119 := Blk.grown hix13 hg14 (fun e => by cases e; exact HI.out.hX2 rfl)
              have hq14 : Blk W14 q _ 121 := Blk.grown hq13 hg14 (fun e => by cases e; exact kmap_ne hqs hF rfl)
              have hrb14 := own_grownAt (own_grownAt (w := W12.drew) hrb hg13 HI.out.h2) hg14 HI.out.h2
              have hrp14 := own_grownAt (own_grownAt (w := W12.drew) hrp hg13 HI.out.h2) hg14 HI.out.h2
              have hla14 := (KMap.grown (w := W12.drew) hla hg13 (fun e => by cases e; exact HI.out.h12 rfl)).grown hg14 (fun e => by cases e; exact HI.out.h12 rfl)
              have hbs13 : w.heap.size ≤ W13.heap.size := Nat.le_trans hbs hg13.size
              have hbe14 : Below B w W14 := ((show Below B w W12.drew from hbe.drew).grown hg13 (show B ≤ W12.heap.size from Nat.le_trans hB hbs) (fun m hm => by cases hm; exact HI.out.b2)).grown hg14 (Nat.le_trans hB hbs13) (fun m hm => by cases hm; exact HI.out.b2)
              have hot14 : ∀ b, b < w.heap.size → b ≠ X → b ≠ m1 → b ≠ m2 → W14.heap[b]? = w.heap[b]? := fun b b1 b2 b3 b4 => (hg14.block b (Nat.lt_of_lt_of_le b1 hbs13) (fun e => by cases e; exact b4 rfl)).trans ((hg13.block b (Nat.lt_of_lt_of_le b1 hbs) (fun e => by cases e; exact b4 rfl)).trans (hot b b1 b2 b3 b4))
              have HR9 := hid (show IxR B w.heap.size X m1 m2 bs 119 5 3 w (k + 1) (.slice avb bs.length cvb) (.slice av' (k + 1) cv') W14 from ⟨hix14, hrb14, by
                rw [prevL_succ, List.map_append, HPK.out]
                exact hrp14, hla14, ⟨_, hm14⟩, hbe14, Nat.le_trans hbs13 hg14.size, hot14⟩)
              generalize hvv : (F (key3 bs k)).getD 0 = vv at *
              clear hvv
              have hS0 : Blk W12.drew X [.slice avb bs.length cvb, .int .i64 3, .map (some m1), .map (some m2), .slice av' (k + 1) cv'] 119 ∧ Blk W12.drew q [.int .u8 ((key3 bs k).1.toNat : Int), .int .u8 ((key3 bs k).2.1.toNat : Int), .int .u8 ((key3 bs k).2.2.toNat : Int), .int .u8 0, .int .u8 0, .int .u8 0, .int .u8 0, .int .u8 0] 121 ∧ True := ⟨hix, hqs, trivial⟩
              have hS1 : Blk W13 X [.slice avb bs.length cvb, .int .i64 3, .map (some m1), .map (some m2), .slice av' (k + 1) cv'] 119 ∧ Blk W13 q [.int .u8 ((key3 bs k).1.toNat : Int), .int .u8 ((key3 bs k).2.1.toNat : Int), .int .u8 ((key3 bs k).2.2.toNat : Int), .int .u8 0, .int .u8 0, .int .u8 0, .int .u8 0, .int .u8 0] 121 ∧ True := ⟨hix13, hq13, trivial⟩
              have hS2 : Blk W14 X [.slice avb bs.length cvb, .int .i64 3, .map (some m1), .map (some m2), .slice av' (k + 1) cv'] 119 ∧ Blk W14 q [.int .u8 ((key3 bs k).1.toNat : Int), .int .u8 ((key3 bs k).2.1.toNat : Int), .int .u8 ((key3 bs k).2.2.toNat : Int), .int .u8 0, .int .u8 0, .int .u8 0, .int .u8 0, .int .u8 0] 121 ∧ True := ⟨hix14, hq14, trivial⟩
              clear hot hot14 hix hrb hrp hla hF hbe hbs hqs hix13 hq13 hix14 hq14 hrb14 hrp14 hla14 hbs13 hbe14 hm13 hm14 hg13 hg14 hst hl2 hkv HP12
              refine wp_region_noPanic ?_
              refine wp_region_held_drew (S := fun W => Blk W X [.slice avb bs.length cvb, .int .i64 3, .map (some m1), .map (some m2), .slice av' (k + 1) cv'] 119 ∧ Blk W q [.int .u8 ((key3 bs k).1.toNat : Int), .int .u8 ((key3 bs k).2.1.toNat : Int), .int .u8 ((key3 bs k).2.2.toNat : Int), .int .u8 0, .int .u8 0, .int .u8 0, .int .u8 0, .int .u8 0] 121 ∧ True) (by kernel_rfl) hS0 (fun hHeld => ?_)
              refine wpAnyH_take (i := 0) (v := .pointer (some ⟨X, 0, none⟩)) (by simp only [List.getElem?_toArray, List.getElem?_cons_zero]; rfl) (by kernel_rfl) (by kernel_rfl) (by kernel_rfl) (fun _ _ _ h => h) (Or.inl ⟨by rfl, fun W hSw => ?_⟩) (by assumption) ?_
              · clear hSw
                go_simp
              simp only [Act.put, List.setIfInBounds_toArray, List.set_cons_zero, List.set_cons_succ]
              refine wpAnyH_take (i := 1) (v := .pointer (some ⟨X, 0, none⟩)) (by simp only [List.getElem?_toArray, List.getElem?_cons_zero, List.getElem?_cons_succ]; rfl) (by kernel_rfl) (by kernel_rfl) (by kernel_rfl) (fun _ _ _ h => h) (Or.inl ⟨by rfl, fun W hSw => ?_⟩) (by assumption) ?_
              · clear hSw
                go_simp
              simp only [Act.put, List.setIfInBounds_toArray, List.set_cons_zero, List.set_cons_succ]
              refine wpAnyH_take (i := 2) (v := .pointer (some ⟨X, 3, none⟩)) (by simp only [List.getElem?_toArray, List.getElem?_cons_zero, List.getElem?_cons_succ]; rfl) (by kernel_rfl) (by kernel_rfl) (by kernel_rfl) (fun _ _ _ h => h) (Or.inl ⟨by rfl, fun W hSw => ?_⟩) (by assumption) ?_
              · clear hSw
                go_simp
              simp only [Act.put, List.setIfInBounds_toArray, List.set_cons_zero, List.set_cons_succ]
              refine wpAnyH_take (i := 3) (v := .map (some m2)) (by simp only [List.getElem?_toArray, List.getElem?_cons_zero, List.getElem?_cons_succ]; rfl) (by kernel_rfl) (by kernel_rfl) (by kernel_rfl) (fun _ _ _ h => h) (Or.inl ⟨by rfl, fun W hSw => ?_⟩) (by assumption) ?_
              · have hcw := hSw.1.cell (k := 3) rfl
                go_simp
              simp only [Act.put, List.setIfInBounds_toArray, List.set_cons_zero, List.set_cons_succ]
              refine wpAnyH_take (i := 4) (v := .agg #[.int .u8 ((key3 bs k).1.toNat : Int), .int .u8 ((key3 bs k).2.1.toNat : Int), .int .u8 ((key3 bs k).2.2.toNat : Int), .int .u8 0, .int .u8 0, .int .u8 0, .int .u8 0, .int .u8 0]) (by simp only [List.getElem?_toArray, List.getElem?_cons_zero, List.getElem?_cons_succ]; rfl) (by kernel_rfl) (by kernel_rfl) (by kernel_rfl) (fun _ _ _ h => h) (Or.inl ⟨by rfl, fun W hSw => ?_⟩) (by assumption) ?_
              · have hq0 := hSw.2.1.cell (k := 0) rfl
                have hq1 := hSw.2.1.cell (k := 1) rfl
                have hq2 := hSw.2.1.cell (k := 2) rfl
                have hq3 := hSw.2.1.cell (k := 3) rfl
                have hq4 := hSw.2.1.cell (k := 4) rfl
                have hq5 := hSw.2.1.cell (k := 5) rfl
                have hq6 := hSw.2.1.cell (k := 6) rfl
                have hq7 := hSw.2.1.cell (k := 7) rfl
                go_simp
              simp only [Act.put, List.setIfInBounds_toArray, List.set_cons_zero, List.set_cons_succ]
              refine wpAnyH_ready (rs := [5, 7]) (by kernel_rfl) (by simp) ?_
              refine AllReadyH.cons (by simp only [List.getElem?_toArray, List.getElem?_cons_zero, List.getElem?_cons_succ]; rfl) (fun K hK => ?_) (AllReadyH.cons (by simp only [List.getElem?_toArray, List.getElem?_cons_zero, List.getElem?_cons_succ]; rfl) (fun K hK => ?_) AllReadyH.nil)
              · rw [if_pos (by rfl)]
                go_simp
                refine hK.out _ _ hS0 (fun _ => ?_)
                clear hK K
                refine wpAnyH_take (i := 6) (v := .int .i64 (IntKind.i64.wrap (vv + 1))) (by simp only [List.getElem?_toArray, List.getElem?_cons_zero, List.getElem?_cons_succ]; rfl) (by kernel_rfl) (by kernel_rfl) (by kernel_rfl) (fun _ _ _ h => h) (Or.inl ⟨by rfl, fun W hSw => ?_⟩) (by assumption) ?_
                · clear hSw
                  go_simp
                simp only [Act.put, List.setIfInBounds_toArray, List.set_cons_zero, List.set_cons_succ]
                refine wpAnyH_ready (rs := [7]) (by kernel_rfl) (by simp) ?_
                refine AllReadyH.cons (by simp only [List.getElem?_toArray, List.getElem?_cons_zero, List.getElem?_cons_succ]; rfl) (fun K hK => ?_) AllReadyH.nil
                rw [if_pos (by rfl)]
                go_simp
                refine hK.out _ _ hS1 (fun _ => ?_)
                clear hK K
                refine wpAnyH_take (i := 8) (v := .int .i64 (st : Nat)) (by simp only [List.getElem?_toArray, List.getElem?_cons_zero, List.getElem?_cons_succ]; rfl) (by kernel_rfl) (by kernel_rfl) (by kernel_rfl) (fun _ _ _ h => h) (Or.inl ⟨by rfl, fun W hSw => ?_⟩) (by assumption) ?_
                · clear hSw
                  go_simp
                simp only [Act.put, List.setIfInBounds_toArray, List.set_cons_zero, List.set_cons_succ]
                refine wpAnyH_ready (rs := [9]) (by kernel_rfl) (by simp) ?_
                refine AllReadyH.cons (by simp only [List.getElem?_toArray, List.getElem?_cons_zero, List.getElem?_cons_succ]; rfl) (fun K hK => ?_) AllReadyH.nil
                rw [if_pos (by rfl)]
                go_simp
                refine hK.out _ _ hS2 (fun _ => ?_)
                clear hK K
                refine wpAnyH_done (by kernel_rfl) ?_ _
                refine NoPanic.normal ?_
                go_wp2
                go_roundg (bs.length - (k + 1))
                case measure => have := HK.out; omega
                case rel => exact ⟨k + 1, _, _, by have := HK.out; omega, by have := HK.out; omega, by go_num, HR9.out⟩
              · rw [if_pos (by rfl)]
                go_simp
                refine hK.out _ _ hS1 (fun _ => ?_)
                clear hK K
                refine wpAnyH_take (i := 8) (v := .int .i64 (st : Nat)) (by simp only [List.getElem?_toArray, List.getElem?_cons_zero, List.getElem?_cons_succ]; rfl) (by kernel_rfl) (by kernel_rfl) (by kernel_rfl) (fun _ _ _ h => h) (Or.inl ⟨by rfl, fun W hSw => ?_⟩) (by assumption) ?_
                · clear hSw
                  go_simp
                simp only [Act.put, List.setIfInBounds_toArray, List.set_cons_zero, List.set_cons_succ]
                refine wpAnyH_ready (rs := [5]) (by kernel_rfl) (by simp) ?_
                refine AllReadyH.cons (by simp only [List.getElem?_toArray, List.getElem?_cons_zero, List.getElem?_cons_succ]; rfl) (fun K hK => ?_) AllReadyH.nil
                rw [if_pos (by rfl)]
                go_simp
                refine hK.out _ _ hS1 (fun _ => ?_)
                clear hK K
                refine wpAnyH_take (i := 6) (v := .int .i64 (IntKind.i64.wrap (vv + 1))) (by simp only [List.getElem?_toArray, List.getElem?_cons_zero, List.getElem?_cons_succ]; rfl) (by kernel_rfl) (by kernel_rfl) (by kernel_rfl) (fun _ _ _ h => h) (Or.inl ⟨by rfl, fun W hSw => ?_⟩) (by assumption) ?_
                · clear hSw
                  go_simp
                simp only [Act.put, List.setIfInBounds_toArray, List.set_cons_zero, List.set_cons_succ]
                refine wpAnyH_ready (rs := [9]) (by kernel_rfl) (by simp) ?_
                refine AllReadyH.cons (by simp only [List.getElem?_toArray, List.getElem?_cons_zero, List.getElem?_cons_succ]; rfl) (fun K hK => ?_) AllReadyH.nil
                rw [if_pos (by rfl)]
                go_simp
                refine hK.out _ _ hS2 (fun _ => ?_)
                clear hK K
                refine wpAnyH_done (by kernel_rfl) ?_ _
                refine NoPanic.normal ?_
                go_wp2
                go_roundg (bs.length - (k + 1))
                case measure => have := HK.out; omega
                case rel => exact ⟨k + 1, _, _, by have := HK.out; omega, by have := HK.out; omega, by go_num, HR9.out⟩
      · have hd : decide ((k : Int) + 3 ≤ (bs.length : Int)) = false := decide_eq_false (by omega)
        go_wp2_with fail
        go_quiet (fail)
        clear hd
        go_wp2_with fail
        simp only [Exit.noGoto_ret]
        go_ret
        obtain rfl : k = bs.length - 2 := by omega
        exact ⟨rfl, _, _, HR2.out.drew _⟩
end Go.Proofs.Ytngphgdoolcpcaa
