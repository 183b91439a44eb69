/-
  The walks of layer 32 (price): Sequence, and the reference's Seq.
-/
import Derived.Test.YtolmmfbgljgdcaaGreatRpE
namespace Go.Proofs.YtolmmfbgljgdcaaGreat
open Go.RowKit Go.Port

theorem lowT_then (qt : Nat) (r0 r1 r2 : Int) (t : Int × Int) : LowT (qt + 1) (fun W => ∃ n0 n1 n2, nextF r0 r1 r2 t = (n0, n1, n2) ∧ Blk W qt [.int .i64 n0, .int .i64 n1, .int .i64 n2] 40) := fun W W' h hk => by
  obtain ⟨n0, n1, n2, h1, h2⟩ := h
  exact ⟨n0, n1, n2, h1, (hk qt (Nat.lt_succ_self _)).trans h2⟩
theorem lowT_any (qt : Nat) : LowT (qt + 1) (fun W => ∃ x y z, Blk W qt [x, y, z] 40) := fun W W' h hk => by
  obtain ⟨x, y, z, h2⟩ := h
  exact ⟨x, y, z, (hk qt (Nat.lt_succ_self _)).trans h2⟩
set_option maxRecDepth 100000 in
set_option maxHeartbeats 4000000 in
theorem prseq_ok (r0 r1 r2 lit len off : Int) (w : World) (M : Nat) (C : Nat → List Int) (h : PrAt w M C) (hlen : -9223372036854775808 ≤ len ∧ len ≤ 9223372036854775807) (hs : seqOk r0 r1 r2 lit off = true) (a b c : Int) (ha : numC C 1 lit = some a) (hb : numC C 2 (valF r0 r1 r2 lit off) = some b) (hc : lenC C len = some c) :
    Calls Tryz.prog 11 #[.pointer (some ⟨M, 0, none⟩), .agg #[.int .i64 r0, .int .i64 r1, .int .i64 r2], .agg #[.int .i64 lit, .int .i64 len, .int .i64 off]] w (RetV w (.tuple #[.int .i64 (a + b + c), nxtV (nextF r0 r1 r2 (toldF r0 r1 r2 lit (valF r0 r1 r2 lit off))), .int .i64 0])) := by
  have hbx : Below w.heap.size w ((((w.alloc (.cells #[.pointer (some ⟨M, 0, none⟩)] 28)).alloc (.cells #[.int .i64 r0, .int .i64 r1, .int .i64 r2] 40)).alloc (.cells #[.int .i64 lit, .int .i64 len, .int .i64 off] 42)).alloc (.cells #[.int .i64 0, .int .i64 0, .int .i64 0] 40)) := (((below_new w _).alloc (by simp) _).alloc (by simp; omega) _).alloc (by simp; omega) _
  have b0 : Blk ((((w.alloc (.cells #[.pointer (some ⟨M, 0, none⟩)] 28)).alloc (.cells #[.int .i64 r0, .int .i64 r1, .int .i64 r2] 40)).alloc (.cells #[.int .i64 lit, .int .i64 len, .int .i64 off] 42)).alloc (.cells #[.int .i64 0, .int .i64 0, .int .i64 0] 40)) w.heap.size [.pointer (some ⟨M, 0, none⟩)] 28 := (((Blk.newAt rfl).alloc _).alloc _).alloc _
  have b1 : Blk ((((w.alloc (.cells #[.pointer (some ⟨M, 0, none⟩)] 28)).alloc (.cells #[.int .i64 r0, .int .i64 r1, .int .i64 r2] 40)).alloc (.cells #[.int .i64 lit, .int .i64 len, .int .i64 off] 42)).alloc (.cells #[.int .i64 0, .int .i64 0, .int .i64 0] 40)) (w.heap.size + 1) [.int .i64 r0, .int .i64 r1, .int .i64 r2] 40 := ((Blk.newAt (by simp)).alloc _).alloc _
  have b2 : Blk ((((w.alloc (.cells #[.pointer (some ⟨M, 0, none⟩)] 28)).alloc (.cells #[.int .i64 r0, .int .i64 r1, .int .i64 r2] 40)).alloc (.cells #[.int .i64 lit, .int .i64 len, .int .i64 off] 42)).alloc (.cells #[.int .i64 0, .int .i64 0, .int .i64 0] 40)) (w.heap.size + 1 + 1) [.int .i64 lit, .int .i64 len, .int .i64 off] 42 := (Blk.newAt (by simp)).alloc _
  have b3 : Blk ((((w.alloc (.cells #[.pointer (some ⟨M, 0, none⟩)] 28)).alloc (.cells #[.int .i64 r0, .int .i64 r1, .int .i64 r2] 40)).alloc (.cells #[.int .i64 lit, .int .i64 len, .int .i64 off] 42)).alloc (.cells #[.int .i64 0, .int .i64 0, .int .i64 0] 40)) (w.heap.size + 1 + 1 + 1) [.int .i64 0, .int .i64 0, .int .i64 0] 40 := Blk.newAt (by simp)
  have hsz : ((((w.alloc (.cells #[.pointer (some ⟨M, 0, none⟩)] 28)).alloc (.cells #[.int .i64 r0, .int .i64 r1, .int .i64 r2] 40)).alloc (.cells #[.int .i64 lit, .int .i64 len, .int .i64 off] 42)).alloc (.cells #[.int .i64 0, .int .i64 0, .int .i64 0] 40)).heap.size = w.heap.size + 1 + 1 + 1 + 1 := by simp
  have HT := hid (prtold_ok ((((w.alloc (.cells #[.pointer (some ⟨M, 0, none⟩)] 28)).alloc (.cells #[.int .i64 r0, .int .i64 r1, .int .i64 r2] 40)).alloc (.cells #[.int .i64 lit, .int .i64 len, .int .i64 off] 42)).alloc (.cells #[.int .i64 0, .int .i64 0, .int .i64 0] 40)) M C 30 #[.pointer (some ⟨w.heap.size + 1, 0, none⟩), .pointer (some ⟨w.heap.size + 1 + 1, 0, none⟩), .pointer (some ⟨w.heap.size + 1 + 1 + 1, 0, none⟩), .pointer (some ⟨w.heap.size, 0, none⟩)] (enters_of Tryz.func30 (by kernel_rfl) rfl) (w.heap.size + 1 + 1 + 1) (by rw [hsz]; exact Nat.le_succ _) (fun W => ∃ n0 n1 n2, nextF r0 r1 r2 (toldF r0 r1 r2 lit (valF r0 r1 r2 lit off)) = (n0, n1, n2) ∧ Blk W (w.heap.size + 1 + 1 + 1) [.int .i64 n0, .int .i64 n1, .int .i64 n2] 40) (by rw [hsz]; exact (lowT_then _ r0 r1 r2 _)) (a + b + c) (fun W hW => by
    rw [hsz]
    exact prseq1_ok r0 r1 r2 lit len off W M C (h.low (hbx.trans (hW.mono hbx.size))) _ _ _ _ _ _ _ (b1.below hW b1.lt) (b2.below hW b2.lt) (b3.below hW b3.lt) (b0.below hW b0.lt) ⟨by omega, by omega, by omega⟩ hlen hs a b c ha hb hc) (h.low hbx))
  have HB1 := hid hbx
  have c0 := b0.cell (k := 0) rfl
  generalize hV : (Value.tuple #[.int .i64 (a + b + c), nxtV (nextF r0 r1 r2 (toldF r0 r1 r2 lit (valF r0 r1 r2 lit off))), .int .i64 0]) = U
  have HV := hid hV
  clear hV ha hb hc
  clear h hlen hs hbx b0 b1 b2 b3 hsz
  go_enter Tryz.func11, Tryz.ntmps11
  go_wp2_with fail
  clear c0
  refine HT.out.mono ?_
  rintro e w2 ⟨rfl, hb, ⟨n0, n1, n2, hn, ht⟩, _⟩
  have hV := HV.out
  rw [hn] at hV
  subst hV
  have HT2 := hid ht
  have HB2 := hid ((HB1.out.trans (hb.mono (by omega))))
  clear hb ht hn HB1 HT
  go_upto_region 4 with fail
  have hb : Below w2.heap.size w2 w2.drew := (Below.refl _ _).drew
  have HT3 := hid (HT2.out.below hb HT2.out.lt)
  have HB3 := hid (HB2.out.trans (hb.mono HB2.out.size))
  clear hb HT2 HB2
  generalize a + b + c = x at *
  refine wp_region_noPanic ?_
  refine wp_region_held_drew (S := fun W' => Blk W' (w.heap.size + 1 + 1 + 1) [.int .i64 n0, .int .i64 n1, .int .i64 n2] 40) (by kernel_rfl) HT3.out (fun hHeld => ?_)
  generalize w2.drew = w3 at *
  refine wpAnyH_take (i := 0) (v := .int .i64 x) (by simp only [List.getElem?_toArray, List.getElem?_cons_zero]; rfl) (by kernel_rfl) (by kernel_rfl) (by kernel_rfl) (fun _ _ _ h => h) (Or.inl ⟨by rfl, fun W hSw => ?_⟩) (by assumption) ?_
  · clear hSw
    go_simp
  simp only [Act.put, List.setIfInBounds_toArray, List.set_cons_zero, List.set_cons_succ]
  refine wpAnyH_take (i := 1) (v := .agg #[.int .i64 n0, .int .i64 n1, .int .i64 n2]) (by simp only [List.getElem?_toArray, List.getElem?_cons_zero, List.getElem?_cons_succ]; rfl) (by kernel_rfl) (by kernel_rfl) (by kernel_rfl) (fun _ _ _ h => h) (Or.inl ⟨by rfl, fun W hSw => ?_⟩) (by assumption) ?_
  · have hcw0 := hSw.cell (k := 0) rfl
    have hcw1 := hSw.cell (k := 1) rfl
    have hcw2 := hSw.cell (k := 2) rfl
    go_simp
  simp only [Act.put, List.setIfInBounds_toArray, List.set_cons_zero, List.set_cons_succ]
  refine wpAnyH_ready (rs := [2]) (by kernel_rfl) (by simp) ?_
  refine AllReadyH.cons (by simp only [List.getElem?_toArray, List.getElem?_cons_zero, List.getElem?_cons_succ]; rfl) (fun K hK => ?_) AllReadyH.nil
  rw [if_pos (by rfl)]
  go_simp
  refine hK.out _ _ HT3.out (fun _ => ?_)
  clear hK K
  have y0 := HT3.out.cell (k := 0) rfl
  have z0 := HT3.out.frozen 0
  have y1 := HT3.out.cell (k := 1) rfl
  have z1 := HT3.out.frozen 1
  have y2 := HT3.out.cell (k := 2) rfl
  have z2 := HT3.out.frozen 2
  have HT4 := hid (((HT3.out.set 0 (.int .i64 n0)).set 1 (.int .i64 n1)).set 2 (.int .i64 n2))
  have HB4 := hid (((HB3.out.setCell (p := ⟨w.heap.size + 1 + 1 + 1, 0, none⟩) (by dsimp only; omega) (.int .i64 n0)).setCell (p := ⟨w.heap.size + 1 + 1 + 1, 1, none⟩) (by dsimp only; omega) (.int .i64 n1)).setCell (p := ⟨w.heap.size + 1 + 1 + 1, 2, none⟩) (by dsimp only; omega) (.int .i64 n2))
  refine wpAnyH_ready (rs := [3]) (by kernel_rfl) (by simp) ?_
  refine AllReadyH.cons (by simp only [List.getElem?_toArray, List.getElem?_cons_zero, List.getElem?_cons_succ]; rfl) (fun K hK => ?_) AllReadyH.nil
  rw [if_pos (by rfl)]
  go_simp
  refine hK.out _ _ HT4.out (fun _ => ?_)
  clear hK K
  clear y0 y1 y2 z0 z1 z2 HT3 HB3
  generalize ((w3.setCell ⟨w.heap.size + 1 + 1 + 1, 0, none⟩ (.int .i64 n0)).setCell ⟨w.heap.size + 1 + 1 + 1, 1, none⟩ (.int .i64 n1)).setCell ⟨w.heap.size + 1 + 1 + 1, 2, none⟩ (.int .i64 n2) = w4 at *
  refine wpAnyH_ready (rs := [4]) (by kernel_rfl) (by simp) ?_
  refine AllReadyH.cons (by simp only [List.getElem?_toArray, List.getElem?_cons_zero, List.getElem?_cons_succ]; rfl) (fun K hK => ?_) AllReadyH.nil
  rw [if_pos (by rfl)]
  go_simp
  refine hK.out _ _ HT4.out (fun _ => ?_)
  clear hK K
  refine wpAnyH_done (by kernel_rfl) ?_ _
  refine NoPanic.normal ?_
  have p0 := HT4.out.cell (k := 0) rfl
  have p1 := HT4.out.cell (k := 1) rfl
  have p2 := HT4.out.cell (k := 2) rfl
  go_wp2
  refine bodyPost_ret (v := .tuple #[.int .i64 x, .agg #[.int .i64 n0, .int .i64 n1, .int .i64 n2], .int .i64 0]) (by simp [results, Tryz.results11, go_sem, p0, p1, p2]) rfl ?_
  exact ⟨rfl, HB4.out⟩
set_option maxRecDepth 100000 in
set_option maxHeartbeats 4000000 in
theorem prseq_e1 (r0 r1 r2 lit len off : Int) (w : World) (M : Nat) (C : Nat → List Int) (h : PrAt w M C) (hlen : -9223372036854775808 ≤ len ∧ len ≤ 9223372036854775807) (hs : seqOk r0 r1 r2 lit off = true) (ha : numC C 1 lit = none) :
    Calls Tryz.prog 11 #[.pointer (some ⟨M, 0, none⟩), .agg #[.int .i64 r0, .int .i64 r1, .int .i64 r2], .agg #[.int .i64 lit, .int .i64 len, .int .i64 off]] w (RetV w (.tuple #[.int .i64 0, .agg #[.int .i64 0, .int .i64 0, .int .i64 0], .int .i64 2])) := by
  have hbx : Below w.heap.size w ((((w.alloc (.cells #[.pointer (some ⟨M, 0, none⟩)] 28)).alloc (.cells #[.int .i64 r0, .int .i64 r1, .int .i64 r2] 40)).alloc (.cells #[.int .i64 lit, .int .i64 len, .int .i64 off] 42)).alloc (.cells #[.int .i64 0, .int .i64 0, .int .i64 0] 40)) := (((below_new w _).alloc (by simp) _).alloc (by simp; omega) _).alloc (by simp; omega) _
  have b0 : Blk ((((w.alloc (.cells #[.pointer (some ⟨M, 0, none⟩)] 28)).alloc (.cells #[.int .i64 r0, .int .i64 r1, .int .i64 r2] 40)).alloc (.cells #[.int .i64 lit, .int .i64 len, .int .i64 off] 42)).alloc (.cells #[.int .i64 0, .int .i64 0, .int .i64 0] 40)) w.heap.size [.pointer (some ⟨M, 0, none⟩)] 28 := (((Blk.newAt rfl).alloc _).alloc _).alloc _
  have b1 : Blk ((((w.alloc (.cells #[.pointer (some ⟨M, 0, none⟩)] 28)).alloc (.cells #[.int .i64 r0, .int .i64 r1, .int .i64 r2] 40)).alloc (.cells #[.int .i64 lit, .int .i64 len, .int .i64 off] 42)).alloc (.cells #[.int .i64 0, .int .i64 0, .int .i64 0] 40)) (w.heap.size + 1) [.int .i64 r0, .int .i64 r1, .int .i64 r2] 40 := ((Blk.newAt (by simp)).alloc _).alloc _
  have b2 : Blk ((((w.alloc (.cells #[.pointer (some ⟨M, 0, none⟩)] 28)).alloc (.cells #[.int .i64 r0, .int .i64 r1, .int .i64 r2] 40)).alloc (.cells #[.int .i64 lit, .int .i64 len, .int .i64 off] 42)).alloc (.cells #[.int .i64 0, .int .i64 0, .int .i64 0] 40)) (w.heap.size + 1 + 1) [.int .i64 lit, .int .i64 len, .int .i64 off] 42 := (Blk.newAt (by simp)).alloc _
  have b3 : Blk ((((w.alloc (.cells #[.pointer (some ⟨M, 0, none⟩)] 28)).alloc (.cells #[.int .i64 r0, .int .i64 r1, .int .i64 r2] 40)).alloc (.cells #[.int .i64 lit, .int .i64 len, .int .i64 off] 42)).alloc (.cells #[.int .i64 0, .int .i64 0, .int .i64 0] 40)) (w.heap.size + 1 + 1 + 1) [.int .i64 0, .int .i64 0, .int .i64 0] 40 := Blk.newAt (by simp)
  have hsz : ((((w.alloc (.cells #[.pointer (some ⟨M, 0, none⟩)] 28)).alloc (.cells #[.int .i64 r0, .int .i64 r1, .int .i64 r2] 40)).alloc (.cells #[.int .i64 lit, .int .i64 len, .int .i64 off] 42)).alloc (.cells #[.int .i64 0, .int .i64 0, .int .i64 0] 40)).heap.size = w.heap.size + 1 + 1 + 1 + 1 := by simp
  have HT := hid (prtold_err ((((w.alloc (.cells #[.pointer (some ⟨M, 0, none⟩)] 28)).alloc (.cells #[.int .i64 r0, .int .i64 r1, .int .i64 r2] 40)).alloc (.cells #[.int .i64 lit, .int .i64 len, .int .i64 off] 42)).alloc (.cells #[.int .i64 0, .int .i64 0, .int .i64 0] 40)) M C 30 #[.pointer (some ⟨w.heap.size + 1, 0, none⟩), .pointer (some ⟨w.heap.size + 1 + 1, 0, none⟩), .pointer (some ⟨w.heap.size + 1 + 1 + 1, 0, none⟩), .pointer (some ⟨w.heap.size, 0, none⟩)] (enters_of Tryz.func30 (by kernel_rfl) rfl) (w.heap.size + 1 + 1 + 1) (by rw [hsz]; exact Nat.le_succ _) (fun W => ∃ x y z, Blk W (w.heap.size + 1 + 1 + 1) [x, y, z] 40) (by rw [hsz]; exact (lowT_any _)) 2 (fun W hW => by
    rw [hsz]
    exact prseq1_e1 r0 r1 r2 lit len off W M C (h.low (hbx.trans (hW.mono hbx.size))) _ _ _ _ _ _ _ (b1.below hW b1.lt) (b2.below hW b2.lt) (b3.below hW b3.lt) (b0.below hW b0.lt) ⟨by omega, by omega, by omega⟩ hlen hs ha) (h.low hbx))
  have HB1 := hid hbx
  have c0 := b0.cell (k := 0) rfl
  clear ha
  clear h hlen hs hbx b0 b1 b2 b3 hsz
  go_enter Tryz.func11, Tryz.ntmps11
  go_wp2_with fail
  clear c0
  refine HT.out.mono ?_
  rintro e w2 ⟨rfl, hb, ⟨x0, x1, x2, ht⟩, _⟩
  have HT2 := hid ht
  have HB2 := hid ((HB1.out.trans (hb.mono (by omega))))
  clear hb ht HB1 HT
  have y0 := HT2.out.cell (k := 0) rfl
  have z0 := HT2.out.frozen 0
  have y1 := HT2.out.cell (k := 1) rfl
  have z1 := HT2.out.frozen 1
  have y2 := HT2.out.cell (k := 2) rfl
  have z2 := HT2.out.frozen 2
  go_wp2
  have HZs := hid (((HT2.out.set 0 (.int .i64 0)).set 1 (.int .i64 0)).set 2 (.int .i64 0))
  have HBs := hid (((HB2.out.setCell (p := ⟨w.heap.size + 1 + 1 + 1, 0, none⟩) (by dsimp only; omega) (.int .i64 0)).setCell (p := ⟨w.heap.size + 1 + 1 + 1, 1, none⟩) (by dsimp only; omega) (.int .i64 0)).setCell (p := ⟨w.heap.size + 1 + 1 + 1, 2, none⟩) (by dsimp only; omega) (.int .i64 0))
  clear y0 y1 y2 z0 z1 z2
  have p0 := HZs.out.cell (k := 0) rfl
  have p1 := HZs.out.cell (k := 1) rfl
  have p2 := HZs.out.cell (k := 2) rfl
  refine bodyPost_ret (v := .tuple #[.int .i64 0, .agg #[.int .i64 0, .int .i64 0, .int .i64 0], .int .i64 2]) (by simp [results, Tryz.results11, go_sem, p0, p1, p2]) rfl ?_
  exact ⟨rfl, HBs.out⟩
set_option maxRecDepth 100000 in
set_option maxHeartbeats 4000000 in
theorem prseq_e2 (r0 r1 r2 lit len off : Int) (w : World) (M : Nat) (C : Nat → List Int) (h : PrAt w M C) (hlen : -9223372036854775808 ≤ len ∧ len ≤ 9223372036854775807) (hs : seqOk r0 r1 r2 lit off = true) (a : Int) (ha : numC C 1 lit = some a) (hb : numC C 2 (valF r0 r1 r2 lit off) = none) :
    Calls Tryz.prog 11 #[.pointer (some ⟨M, 0, none⟩), .agg #[.int .i64 r0, .int .i64 r1, .int .i64 r2], .agg #[.int .i64 lit, .int .i64 len, .int .i64 off]] w (RetV w (.tuple #[.int .i64 0, .agg #[.int .i64 0, .int .i64 0, .int .i64 0], .int .i64 2])) := by
  have hbx : Below w.heap.size w ((((w.alloc (.cells #[.pointer (some ⟨M, 0, none⟩)] 28)).alloc (.cells #[.int .i64 r0, .int .i64 r1, .int .i64 r2] 40)).alloc (.cells #[.int .i64 lit, .int .i64 len, .int .i64 off] 42)).alloc (.cells #[.int .i64 0, .int .i64 0, .int .i64 0] 40)) := (((below_new w _).alloc (by simp) _).alloc (by simp; omega) _).alloc (by simp; omega) _
  have b0 : Blk ((((w.alloc (.cells #[.pointer (some ⟨M, 0, none⟩)] 28)).alloc (.cells #[.int .i64 r0, .int .i64 r1, .int .i64 r2] 40)).alloc (.cells #[.int .i64 lit, .int .i64 len, .int .i64 off] 42)).alloc (.cells #[.int .i64 0, .int .i64 0, .int .i64 0] 40)) w.heap.size [.pointer (some ⟨M, 0, none⟩)] 28 := (((Blk.newAt rfl).alloc _).alloc _).alloc _
  have b1 : Blk ((((w.alloc (.cells #[.pointer (some ⟨M, 0, none⟩)] 28)).alloc (.cells #[.int .i64 r0, .int .i64 r1, .int .i64 r2] 40)).alloc (.cells #[.int .i64 lit, .int .i64 len, .int .i64 off] 42)).alloc (.cells #[.int .i64 0, .int .i64 0, .int .i64 0] 40)) (w.heap.size + 1) [.int .i64 r0, .int .i64 r1, .int .i64 r2] 40 := ((Blk.newAt (by simp)).alloc _).alloc _
  have b2 : Blk ((((w.alloc (.cells #[.pointer (some ⟨M, 0, none⟩)] 28)).alloc (.cells #[.int .i64 r0, .int .i64 r1, .int .i64 r2] 40)).alloc (.cells #[.int .i64 lit, .int .i64 len, .int .i64 off] 42)).alloc (.cells #[.int .i64 0, .int .i64 0, .int .i64 0] 40)) (w.heap.size + 1 + 1) [.int .i64 lit, .int .i64 len, .int .i64 off] 42 := (Blk.newAt (by simp)).alloc _
  have b3 : Blk ((((w.alloc (.cells #[.pointer (some ⟨M, 0, none⟩)] 28)).alloc (.cells #[.int .i64 r0, .int .i64 r1, .int .i64 r2] 40)).alloc (.cells #[.int .i64 lit, .int .i64 len, .int .i64 off] 42)).alloc (.cells #[.int .i64 0, .int .i64 0, .int .i64 0] 40)) (w.heap.size + 1 + 1 + 1) [.int .i64 0, .int .i64 0, .int .i64 0] 40 := Blk.newAt (by simp)
  have hsz : ((((w.alloc (.cells #[.pointer (some ⟨M, 0, none⟩)] 28)).alloc (.cells #[.int .i64 r0, .int .i64 r1, .int .i64 r2] 40)).alloc (.cells #[.int .i64 lit, .int .i64 len, .int .i64 off] 42)).alloc (.cells #[.int .i64 0, .int .i64 0, .int .i64 0] 40)).heap.size = w.heap.size + 1 + 1 + 1 + 1 := by simp
  have HT := hid (prtold_err ((((w.alloc (.cells #[.pointer (some ⟨M, 0, none⟩)] 28)).alloc (.cells #[.int .i64 r0, .int .i64 r1, .int .i64 r2] 40)).alloc (.cells #[.int .i64 lit, .int .i64 len, .int .i64 off] 42)).alloc (.cells #[.int .i64 0, .int .i64 0, .int .i64 0] 40)) M C 30 #[.pointer (some ⟨w.heap.size + 1, 0, none⟩), .pointer (some ⟨w.heap.size + 1 + 1, 0, none⟩), .pointer (some ⟨w.heap.size + 1 + 1 + 1, 0, none⟩), .pointer (some ⟨w.heap.size, 0, none⟩)] (enters_of Tryz.func30 (by kernel_rfl) rfl) (w.heap.size + 1 + 1 + 1) (by rw [hsz]; exact Nat.le_succ _) (fun W => ∃ x y z, Blk W (w.heap.size + 1 + 1 + 1) [x, y, z] 40) (by rw [hsz]; exact (lowT_any _)) 2 (fun W hW => by
    rw [hsz]
    exact prseq1_e2 r0 r1 r2 lit len off W M C (h.low (hbx.trans (hW.mono hbx.size))) _ _ _ _ _ _ _ (b1.below hW b1.lt) (b2.below hW b2.lt) (b3.below hW b3.lt) (b0.below hW b0.lt) ⟨by omega, by omega, by omega⟩ hlen hs a ha hb) (h.low hbx))
  have HB1 := hid hbx
  have c0 := b0.cell (k := 0) rfl
  clear ha hb
  clear h hlen hs hbx b0 b1 b2 b3 hsz
  go_enter Tryz.func11, Tryz.ntmps11
  go_wp2_with fail
  clear c0
  refine HT.out.mono ?_
  rintro e w2 ⟨rfl, hb, ⟨x0, x1, x2, ht⟩, _⟩
  have HT2 := hid ht
  have HB2 := hid ((HB1.out.trans (hb.mono (by omega))))
  clear hb ht HB1 HT
  have y0 := HT2.out.cell (k := 0) rfl
  have z0 := HT2.out.frozen 0
  have y1 := HT2.out.cell (k := 1) rfl
  have z1 := HT2.out.frozen 1
  have y2 := HT2.out.cell (k := 2) rfl
  have z2 := HT2.out.frozen 2
  go_wp2
  have HZs := hid (((HT2.out.set 0 (.int .i64 0)).set 1 (.int .i64 0)).set 2 (.int .i64 0))
  have HBs := hid (((HB2.out.setCell (p := ⟨w.heap.size + 1 + 1 + 1, 0, none⟩) (by dsimp only; omega) (.int .i64 0)).setCell (p := ⟨w.heap.size + 1 + 1 + 1, 1, none⟩) (by dsimp only; omega) (.int .i64 0)).setCell (p := ⟨w.heap.size + 1 + 1 + 1, 2, none⟩) (by dsimp only; omega) (.int .i64 0))
  clear y0 y1 y2 z0 z1 z2
  have p0 := HZs.out.cell (k := 0) rfl
  have p1 := HZs.out.cell (k := 1) rfl
  have p2 := HZs.out.cell (k := 2) rfl
  refine bodyPost_ret (v := .tuple #[.int .i64 0, .agg #[.int .i64 0, .int .i64 0, .int .i64 0], .int .i64 2]) (by simp [results, Tryz.results11, go_sem, p0, p1, p2]) rfl ?_
  exact ⟨rfl, HBs.out⟩
set_option maxRecDepth 100000 in
set_option maxHeartbeats 4000000 in
theorem prseq_e3 (r0 r1 r2 lit len off : Int) (w : World) (M : Nat) (C : Nat → List Int) (h : PrAt w M C) (hlen : -9223372036854775808 ≤ len ∧ len ≤ 9223372036854775807) (hs : seqOk r0 r1 r2 lit off = true) (a b : Int) (ha : numC C 1 lit = some a) (hb : numC C 2 (valF r0 r1 r2 lit off) = some b) (hc : lenC C len = none) :
    Calls Tryz.prog 11 #[.pointer (some ⟨M, 0, none⟩), .agg #[.int .i64 r0, .int .i64 r1, .int .i64 r2], .agg #[.int .i64 lit, .int .i64 len, .int .i64 off]] w (RetV w (.tuple #[.int .i64 0, .agg #[.int .i64 0, .int .i64 0, .int .i64 0], .int .i64 2])) := by
  have hbx : Below w.heap.size w ((((w.alloc (.cells #[.pointer (some ⟨M, 0, none⟩)] 28)).alloc (.cells #[.int .i64 r0, .int .i64 r1, .int .i64 r2] 40)).alloc (.cells #[.int .i64 lit, .int .i64 len, .int .i64 off] 42)).alloc (.cells #[.int .i64 0, .int .i64 0, .int .i64 0] 40)) := (((below_new w _).alloc (by simp) _).alloc (by simp; omega) _).alloc (by simp; omega) _
  have b0 : Blk ((((w.alloc (.cells #[.pointer (some ⟨M, 0, none⟩)] 28)).alloc (.cells #[.int .i64 r0, .int .i64 r1, .int .i64 r2] 40)).alloc (.cells #[.int .i64 lit, .int .i64 len, .int .i64 off] 42)).alloc (.cells #[.int .i64 0, .int .i64 0, .int .i64 0] 40)) w.heap.size [.pointer (some ⟨M, 0, none⟩)] 28 := (((Blk.newAt rfl).alloc _).alloc _).alloc _
  have b1 : Blk ((((w.alloc (.cells #[.pointer (some ⟨M, 0, none⟩)] 28)).alloc (.cells #[.int .i64 r0, .int .i64 r1, .int .i64 r2] 40)).alloc (.cells #[.int .i64 lit, .int .i64 len, .int .i64 off] 42)).alloc (.cells #[.int .i64 0, .int .i64 0, .int .i64 0] 40)) (w.heap.size + 1) [.int .i64 r0, .int .i64 r1, .int .i64 r2] 40 := ((Blk.newAt (by simp)).alloc _).alloc _
  have b2 : Blk ((((w.alloc (.cells #[.pointer (some ⟨M, 0, none⟩)] 28)).alloc (.cells #[.int .i64 r0, .int .i64 r1, .int .i64 r2] 40)).alloc (.cells #[.int .i64 lit, .int .i64 len, .int .i64 off] 42)).alloc (.cells #[.int .i64 0, .int .i64 0, .int .i64 0] 40)) (w.heap.size + 1 + 1) [.int .i64 lit, .int .i64 len, .int .i64 off] 42 := (Blk.newAt (by simp)).alloc _
  have b3 : Blk ((((w.alloc (.cells #[.pointer (some ⟨M, 0, none⟩)] 28)).alloc (.cells #[.int .i64 r0, .int .i64 r1, .int .i64 r2] 40)).alloc (.cells #[.int .i64 lit, .int .i64 len, .int .i64 off] 42)).alloc (.cells #[.int .i64 0, .int .i64 0, .int .i64 0] 40)) (w.heap.size + 1 + 1 + 1) [.int .i64 0, .int .i64 0, .int .i64 0] 40 := Blk.newAt (by simp)
  have hsz : ((((w.alloc (.cells #[.pointer (some ⟨M, 0, none⟩)] 28)).alloc (.cells #[.int .i64 r0, .int .i64 r1, .int .i64 r2] 40)).alloc (.cells #[.int .i64 lit, .int .i64 len, .int .i64 off] 42)).alloc (.cells #[.int .i64 0, .int .i64 0, .int .i64 0] 40)).heap.size = w.heap.size + 1 + 1 + 1 + 1 := by simp
  have HT := hid (prtold_err ((((w.alloc (.cells #[.pointer (some ⟨M, 0, none⟩)] 28)).alloc (.cells #[.int .i64 r0, .int .i64 r1, .int .i64 r2] 40)).alloc (.cells #[.int .i64 lit, .int .i64 len, .int .i64 off] 42)).alloc (.cells #[.int .i64 0, .int .i64 0, .int .i64 0] 40)) M C 30 #[.pointer (some ⟨w.heap.size + 1, 0, none⟩), .pointer (some ⟨w.heap.size + 1 + 1, 0, none⟩), .pointer (some ⟨w.heap.size + 1 + 1 + 1, 0, none⟩), .pointer (some ⟨w.heap.size, 0, none⟩)] (enters_of Tryz.func30 (by kernel_rfl) rfl) (w.heap.size + 1 + 1 + 1) (by rw [hsz]; exact Nat.le_succ _) (fun W => ∃ x y z, Blk W (w.heap.size + 1 + 1 + 1) [x, y, z] 40) (by rw [hsz]; exact (lowT_any _)) 2 (fun W hW => by
    rw [hsz]
    exact prseq1_e3 r0 r1 r2 lit len off W M C (h.low (hbx.trans (hW.mono hbx.size))) _ _ _ _ _ _ _ (b1.below hW b1.lt) (b2.below hW b2.lt) (b3.below hW b3.lt) (b0.below hW b0.lt) ⟨by omega, by omega, by omega⟩ hlen hs a b ha hb hc) (h.low hbx))
  have HB1 := hid hbx
  have c0 := b0.cell (k := 0) rfl
  clear ha hb hc
  clear h hlen hs hbx b0 b1 b2 b3 hsz
  go_enter Tryz.func11, Tryz.ntmps11
  go_wp2_with fail
  clear c0
  refine HT.out.mono ?_
  rintro e w2 ⟨rfl, hb, ⟨x0, x1, x2, ht⟩, _⟩
  have HT2 := hid ht
  have HB2 := hid ((HB1.out.trans (hb.mono (by omega))))
  clear hb ht HB1 HT
  have y0 := HT2.out.cell (k := 0) rfl
  have z0 := HT2.out.frozen 0
  have y1 := HT2.out.cell (k := 1) rfl
  have z1 := HT2.out.frozen 1
  have y2 := HT2.out.cell (k := 2) rfl
  have z2 := HT2.out.frozen 2
  go_wp2
  have HZs := hid (((HT2.out.set 0 (.int .i64 0)).set 1 (.int .i64 0)).set 2 (.int .i64 0))
  have HBs := hid (((HB2.out.setCell (p := ⟨w.heap.size + 1 + 1 + 1, 0, none⟩) (by dsimp only; omega) (.int .i64 0)).setCell (p := ⟨w.heap.size + 1 + 1 + 1, 1, none⟩) (by dsimp only; omega) (.int .i64 0)).setCell (p := ⟨w.heap.size + 1 + 1 + 1, 2, none⟩) (by dsimp only; omega) (.int .i64 0))
  clear y0 y1 y2 z0 z1 z2
  have p0 := HZs.out.cell (k := 0) rfl
  have p1 := HZs.out.cell (k := 1) rfl
  have p2 := HZs.out.cell (k := 2) rfl
  refine bodyPost_ret (v := .tuple #[.int .i64 0, .agg #[.int .i64 0, .int .i64 0, .int .i64 0], .int .i64 2]) (by simp [results, Tryz.results11, go_sem, p0, p1, p2]) rfl ?_
  exact ⟨rfl, HBs.out⟩
set_option maxRecDepth 100000 in
set_option maxHeartbeats 4000000 in
theorem prseq_ev (r0 r1 r2 lit len off : Int) (w : World) (M : Nat) (C : Nat → List Int) (h : PrAt w M C) (hlen : -9223372036854775808 ≤ len ∧ len ≤ 9223372036854775807) (hs : seqOk r0 r1 r2 lit off = false) :
    Calls Tryz.prog 11 #[.pointer (some ⟨M, 0, none⟩), .agg #[.int .i64 r0, .int .i64 r1, .int .i64 r2], .agg #[.int .i64 lit, .int .i64 len, .int .i64 off]] w (RetV w (.tuple #[.int .i64 0, .agg #[.int .i64 0, .int .i64 0, .int .i64 0], .int .i64 2])) := by
  have hbx : Below w.heap.size w ((((w.alloc (.cells #[.pointer (some ⟨M, 0, none⟩)] 28)).alloc (.cells #[.int .i64 r0, .int .i64 r1, .int .i64 r2] 40)).alloc (.cells #[.int .i64 lit, .int .i64 len, .int .i64 off] 42)).alloc (.cells #[.int .i64 0, .int .i64 0, .int .i64 0] 40)) := (((below_new w _).alloc (by simp) _).alloc (by simp; omega) _).alloc (by simp; omega) _
  have b0 : Blk ((((w.alloc (.cells #[.pointer (some ⟨M, 0, none⟩)] 28)).alloc (.cells #[.int .i64 r0, .int .i64 r1, .int .i64 r2] 40)).alloc (.cells #[.int .i64 lit, .int .i64 len, .int .i64 off] 42)).alloc (.cells #[.int .i64 0, .int .i64 0, .int .i64 0] 40)) w.heap.size [.pointer (some ⟨M, 0, none⟩)] 28 := (((Blk.newAt rfl).alloc _).alloc _).alloc _
  have b1 : Blk ((((w.alloc (.cells #[.pointer (some ⟨M, 0, none⟩)] 28)).alloc (.cells #[.int .i64 r0, .int .i64 r1, .int .i64 r2] 40)).alloc (.cells #[.int .i64 lit, .int .i64 len, .int .i64 off] 42)).alloc (.cells #[.int .i64 0, .int .i64 0, .int .i64 0] 40)) (w.heap.size + 1) [.int .i64 r0, .int .i64 r1, .int .i64 r2] 40 := ((Blk.newAt (by simp)).alloc _).alloc _
  have b2 : Blk ((((w.alloc (.cells #[.pointer (some ⟨M, 0, none⟩)] 28)).alloc (.cells #[.int .i64 r0, .int .i64 r1, .int .i64 r2] 40)).alloc (.cells #[.int .i64 lit, .int .i64 len, .int .i64 off] 42)).alloc (.cells #[.int .i64 0, .int .i64 0, .int .i64 0] 40)) (w.heap.size + 1 + 1) [.int .i64 lit, .int .i64 len, .int .i64 off] 42 := (Blk.newAt (by simp)).alloc _
  have b3 : Blk ((((w.alloc (.cells #[.pointer (some ⟨M, 0, none⟩)] 28)).alloc (.cells #[.int .i64 r0, .int .i64 r1, .int .i64 r2] 40)).alloc (.cells #[.int .i64 lit, .int .i64 len, .int .i64 off] 42)).alloc (.cells #[.int .i64 0, .int .i64 0, .int .i64 0] 40)) (w.heap.size + 1 + 1 + 1) [.int .i64 0, .int .i64 0, .int .i64 0] 40 := Blk.newAt (by simp)
  have hsz : ((((w.alloc (.cells #[.pointer (some ⟨M, 0, none⟩)] 28)).alloc (.cells #[.int .i64 r0, .int .i64 r1, .int .i64 r2] 40)).alloc (.cells #[.int .i64 lit, .int .i64 len, .int .i64 off] 42)).alloc (.cells #[.int .i64 0, .int .i64 0, .int .i64 0] 40)).heap.size = w.heap.size + 1 + 1 + 1 + 1 := by simp
  have HT := hid (prtold_err ((((w.alloc (.cells #[.pointer (some ⟨M, 0, none⟩)] 28)).alloc (.cells #[.int .i64 r0, .int .i64 r1, .int .i64 r2] 40)).alloc (.cells #[.int .i64 lit, .int .i64 len, .int .i64 off] 42)).alloc (.cells #[.int .i64 0, .int .i64 0, .int .i64 0] 40)) M C 30 #[.pointer (some ⟨w.heap.size + 1, 0, none⟩), .pointer (some ⟨w.heap.size + 1 + 1, 0, none⟩), .pointer (some ⟨w.heap.size + 1 + 1 + 1, 0, none⟩), .pointer (some ⟨w.heap.size, 0, none⟩)] (enters_of Tryz.func30 (by kernel_rfl) rfl) (w.heap.size + 1 + 1 + 1) (by rw [hsz]; exact Nat.le_succ _) (fun W => ∃ x y z, Blk W (w.heap.size + 1 + 1 + 1) [x, y, z] 40) (by rw [hsz]; exact (lowT_any _)) 2 (fun W hW => by
    rw [hsz]
    exact prseq1_ev r0 r1 r2 lit len off W M C (h.low (hbx.trans (hW.mono hbx.size))) _ _ _ _ _ _ _ (b1.below hW b1.lt) (b2.below hW b2.lt) (b3.below hW b3.lt) (b0.below hW b0.lt) ⟨by omega, by omega, by omega⟩ hlen hs) (h.low hbx))
  have HB1 := hid hbx
  have c0 := b0.cell (k := 0) rfl
  clear h hlen hs hbx b0 b1 b2 b3 hsz
  go_enter Tryz.func11, Tryz.ntmps11
  go_wp2_with fail
  clear c0
  refine HT.out.mono ?_
  rintro e w2 ⟨rfl, hb, ⟨x0, x1, x2, ht⟩, _⟩
  have HT2 := hid ht
  have HB2 := hid ((HB1.out.trans (hb.mono (by omega))))
  clear hb ht HB1 HT
  have y0 := HT2.out.cell (k := 0) rfl
  have z0 := HT2.out.frozen 0
  have y1 := HT2.out.cell (k := 1) rfl
  have z1 := HT2.out.frozen 1
  have y2 := HT2.out.cell (k := 2) rfl
  have z2 := HT2.out.frozen 2
  go_wp2
  have HZs := hid (((HT2.out.set 0 (.int .i64 0)).set 1 (.int .i64 0)).set 2 (.int .i64 0))
  have HBs := hid (((HB2.out.setCell (p := ⟨w.heap.size + 1 + 1 + 1, 0, none⟩) (by dsimp only; omega) (.int .i64 0)).setCell (p := ⟨w.heap.size + 1 + 1 + 1, 1, none⟩) (by dsimp only; omega) (.int .i64 0)).setCell (p := ⟨w.heap.size + 1 + 1 + 1, 2, none⟩) (by dsimp only; omega) (.int .i64 0))
  clear y0 y1 y2 z0 z1 z2
  have p0 := HZs.out.cell (k := 0) rfl
  have p1 := HZs.out.cell (k := 1) rfl
  have p2 := HZs.out.cell (k := 2) rfl
  refine bodyPost_ret (v := .tuple #[.int .i64 0, .agg #[.int .i64 0, .int .i64 0, .int .i64 0], .int .i64 2]) (by simp [results, Tryz.results11, go_sem, p0, p1, p2]) rfl ?_
  exact ⟨rfl, HBs.out⟩
theorem prseq_any (r0 r1 r2 lit len off : Int) (w : World) (M : Nat) (C : Nat → List Int) (h : PrAt w M C) (hlen : -9223372036854775808 ≤ len ∧ len ≤ 9223372036854775807) :
    Calls Tryz.prog 11 #[.pointer (some ⟨M, 0, none⟩), .agg #[.int .i64 r0, .int .i64 r1, .int .i64 r2], .agg #[.int .i64 lit, .int .i64 len, .int .i64 off]] w (RetV w (seqV C r0 r1 r2 lit len off)) := by
  unfold seqV seqO
  cases hs : seqOk r0 r1 r2 lit off with
  | false => rw [if_neg (by decide)]; exact prseq_ev r0 r1 r2 lit len off w M C h hlen hs
  | true =>
    rw [if_pos rfl]
    cases ha : numC C 1 lit with
    | none => exact prseq_e1 r0 r1 r2 lit len off w M C h hlen hs ha
    | some a =>
      cases hb : numC C 2 (valF r0 r1 r2 lit off) with
      | none => exact prseq_e2 r0 r1 r2 lit len off w M C h hlen hs a ha hb
      | some b =>
        cases hc : lenC C len with
        | none => exact prseq_e3 r0 r1 r2 lit len off w M C h hlen hs a b ha hb hc
        | some c => exact prseq_ok r0 r1 r2 lit len off w M C h hlen hs a b c ha hb hc
set_option maxRecDepth 100000 in
set_option maxHeartbeats 8000000 in
theorem rseq_bad (r0 r1 r2 lit len off : Int) (A : Nat → Option Addr) (cp : Nat → Nat) (C : Nat → List Int) (w : World) (h : RfAt w A cp C) (hs : seqOk r0 r1 r2 lit off = false) :
    Calls Tryz.prog 12 #[fourV A cp C, .agg #[.int .i64 r0, .int .i64 r1, .int .i64 r2], .agg #[.int .i64 lit, .int .i64 len, .int .i64 off]] w (RetV w (.tuple #[.int .i64 0, .agg #[.int .i64 0, .int .i64 0, .int .i64 0], .int .i64 2])) := by
  have hbx : Below w.heap.size w ((((w.alloc (.cells #[.slice (A 0) (C 0).length (cp 0), .slice (A 1) (C 1).length (cp 1), .slice (A 2) (C 2).length (cp 2), .slice (A 3) (C 3).length (cp 3)] 30)).alloc (.cells #[.int .i64 r0, .int .i64 r1, .int .i64 r2] 40)).alloc (.cells #[.int .i64 lit, .int .i64 len, .int .i64 off] 42)).alloc (.cells #[.int .i64 0, .int .i64 0, .int .i64 0] 40)) := (((below_new w _).alloc (by simp) _).alloc (by simp; omega) _).alloc (by simp; omega) _
  have HP1 := hid (show Blk ((((w.alloc (.cells #[.slice (A 0) (C 0).length (cp 0), .slice (A 1) (C 1).length (cp 1), .slice (A 2) (C 2).length (cp 2), .slice (A 3) (C 3).length (cp 3)] 30)).alloc (.cells #[.int .i64 r0, .int .i64 r1, .int .i64 r2] 40)).alloc (.cells #[.int .i64 lit, .int .i64 len, .int .i64 off] 42)).alloc (.cells #[.int .i64 0, .int .i64 0, .int .i64 0] 40)) w.heap.size [.slice (A 0) (C 0).length (cp 0), .slice (A 1) (C 1).length (cp 1), .slice (A 2) (C 2).length (cp 2), .slice (A 3) (C 3).length (cp 3)] 30 from (((Blk.newAt rfl).alloc _).alloc _).alloc _)
  have HX1 := hid (show Blk ((((w.alloc (.cells #[.slice (A 0) (C 0).length (cp 0), .slice (A 1) (C 1).length (cp 1), .slice (A 2) (C 2).length (cp 2), .slice (A 3) (C 3).length (cp 3)] 30)).alloc (.cells #[.int .i64 r0, .int .i64 r1, .int .i64 r2] 40)).alloc (.cells #[.int .i64 lit, .int .i64 len, .int .i64 off] 42)).alloc (.cells #[.int .i64 0, .int .i64 0, .int .i64 0] 40)) (w.heap.size + 1) [.int .i64 r0, .int .i64 r1, .int .i64 r2] 40 from ((Blk.newAt (by simp)).alloc _).alloc _)
  have HS1 := hid (show Blk ((((w.alloc (.cells #[.slice (A 0) (C 0).length (cp 0), .slice (A 1) (C 1).length (cp 1), .slice (A 2) (C 2).length (cp 2), .slice (A 3) (C 3).length (cp 3)] 30)).alloc (.cells #[.int .i64 r0, .int .i64 r1, .int .i64 r2] 40)).alloc (.cells #[.int .i64 lit, .int .i64 len, .int .i64 off] 42)).alloc (.cells #[.int .i64 0, .int .i64 0, .int .i64 0] 40)) (w.heap.size + 1 + 1) [.int .i64 lit, .int .i64 len, .int .i64 off] 42 from (Blk.newAt (by simp)).alloc _)
  have HZ1 := hid (show Blk ((((w.alloc (.cells #[.slice (A 0) (C 0).length (cp 0), .slice (A 1) (C 1).length (cp 1), .slice (A 2) (C 2).length (cp 2), .slice (A 3) (C 3).length (cp 3)] 30)).alloc (.cells #[.int .i64 r0, .int .i64 r1, .int .i64 r2] 40)).alloc (.cells #[.int .i64 lit, .int .i64 len, .int .i64 off] 42)).alloc (.cells #[.int .i64 0, .int .i64 0, .int .i64 0] 40)) (w.heap.size + 1 + 1 + 1) [.int .i64 0, .int .i64 0, .int .i64 0] 40 from Blk.newAt (by simp))
  have HR1 := hid (h.low hbx)
  have HB1 := hid hbx
  have c0 := HX1.out.cell (k := 0) rfl
  have c1 := HX1.out.cell (k := 1) rfl
  have c2 := HX1.out.cell (k := 2) rfl
  have hc := seqOk_false hs
  clear h hbx hs
  cases hr : rRight r0 r1 r2 with
  | false =>
    have HRr := hid (fun W => by have h := rright21_any r0 r1 r2 W; rw [hr] at h; exact h)
    unfold fourV
    go_enter Tryz.func12, Tryz.ntmps12
    go_wp2_with fail
    clear c0 c1 c2
    generalize (((w.alloc (.cells #[.slice (A 0) (C 0).length (cp 0), .slice (A 1) (C 1).length (cp 1), .slice (A 2) (C 2).length (cp 2), .slice (A 3) (C 3).length (cp 3)] 30)).alloc (.cells #[.int .i64 r0, .int .i64 r1, .int .i64 r2] 40)).alloc (.cells #[.int .i64 lit, .int .i64 len, .int .i64 off] 42)).alloc (.cells #[.int .i64 0, .int .i64 0, .int .i64 0] 40) = w1 at *
    refine (HRr.out _).mono ?_
    rintro e w2 ⟨rfl, hb⟩
    have HP2 := hid (HP1.out.below hb HP1.out.lt)
    have HX2 := hid (HX1.out.below hb HX1.out.lt)
    have HS2 := hid (HS1.out.below hb HS1.out.lt)
    have HZ2 := hid (HZ1.out.below hb HZ1.out.lt)
    have HR2 := hid (HR1.out.low hb)
    have HB2 := hid (HB1.out.trans (hb.mono HB1.out.size))
    clear hb HP1 HX1 HS1 HZ1 HR1 HB1
    have e0 := HS2.out.cell (k := 0) rfl
    have e2 := HS2.out.cell (k := 2) rfl
    have y0 := HZ2.out.cell (k := 0) rfl
    have z0 := HZ2.out.frozen 0
    have y1 := HZ2.out.cell (k := 1) rfl
    have z1 := HZ2.out.frozen 1
    have y2 := HZ2.out.cell (k := 2) rfl
    have z2 := HZ2.out.frozen 2
    go_wp2
    clear e0 e2
    have HZs := hid (((HZ2.out.set 0 (.int .i64 0)).set 1 (.int .i64 0)).set 2 (.int .i64 0))
    have HBs := hid (((HB2.out.setCell (p := ⟨w.heap.size + 1 + 1 + 1, 0, none⟩) (by dsimp only; omega) (.int .i64 0)).setCell (p := ⟨w.heap.size + 1 + 1 + 1, 1, none⟩) (by dsimp only; omega) (.int .i64 0)).setCell (p := ⟨w.heap.size + 1 + 1 + 1, 2, none⟩) (by dsimp only; omega) (.int .i64 0))
    clear y0 y1 y2 z0 z1 z2
    have p0 := HZs.out.cell (k := 0) rfl
    have p1 := HZs.out.cell (k := 1) rfl
    have p2 := HZs.out.cell (k := 2) rfl
    refine bodyPost_ret (v := .tuple #[.int .i64 0, .agg #[.int .i64 0, .int .i64 0, .int .i64 0], .int .i64 2]) (by simp [results, Tryz.results12, go_sem, p0, p1, p2]) rfl ?_
    exact ⟨rfl, HBs.out⟩
  | true =>
    have HRr := hid (fun W => by have h := rright21_any r0 r1 r2 W; rw [hr] at h; exact h)
    by_cases hl : lit < 0
    · clear hc hr
      unfold fourV
      go_enter Tryz.func12, Tryz.ntmps12
      go_wp2_with fail
      clear c0 c1 c2
      generalize (((w.alloc (.cells #[.slice (A 0) (C 0).length (cp 0), .slice (A 1) (C 1).length (cp 1), .slice (A 2) (C 2).length (cp 2), .slice (A 3) (C 3).length (cp 3)] 30)).alloc (.cells #[.int .i64 r0, .int .i64 r1, .int .i64 r2] 40)).alloc (.cells #[.int .i64 lit, .int .i64 len, .int .i64 off] 42)).alloc (.cells #[.int .i64 0, .int .i64 0, .int .i64 0] 40) = w1 at *
      refine (HRr.out _).mono ?_
      rintro e w2 ⟨rfl, hb⟩
      have HP2 := hid (HP1.out.below hb HP1.out.lt)
      have HX2 := hid (HX1.out.below hb HX1.out.lt)
      have HS2 := hid (HS1.out.below hb HS1.out.lt)
      have HZ2 := hid (HZ1.out.below hb HZ1.out.lt)
      have HR2 := hid (HR1.out.low hb)
      have HB2 := hid (HB1.out.trans (hb.mono HB1.out.size))
      clear hb HP1 HX1 HS1 HZ1 HR1 HB1
      have e0 := HS2.out.cell (k := 0) rfl
      have e2 := HS2.out.cell (k := 2) rfl
      have y0 := HZ2.out.cell (k := 0) rfl
      have z0 := HZ2.out.frozen 0
      have y1 := HZ2.out.cell (k := 1) rfl
      have z1 := HZ2.out.frozen 1
      have y2 := HZ2.out.cell (k := 2) rfl
      have z2 := HZ2.out.frozen 2
      go_wp2
      clear e0 e2
      have HZs := hid (((HZ2.out.set 0 (.int .i64 0)).set 1 (.int .i64 0)).set 2 (.int .i64 0))
      have HBs := hid (((HB2.out.setCell (p := ⟨w.heap.size + 1 + 1 + 1, 0, none⟩) (by dsimp only; omega) (.int .i64 0)).setCell (p := ⟨w.heap.size + 1 + 1 + 1, 1, none⟩) (by dsimp only; omega) (.int .i64 0)).setCell (p := ⟨w.heap.size + 1 + 1 + 1, 2, none⟩) (by dsimp only; omega) (.int .i64 0))
      clear y0 y1 y2 z0 z1 z2
      have p0 := HZs.out.cell (k := 0) rfl
      have p1 := HZs.out.cell (k := 1) rfl
      have p2 := HZs.out.cell (k := 2) rfl
      refine bodyPost_ret (v := .tuple #[.int .i64 0, .agg #[.int .i64 0, .int .i64 0, .int .i64 0], .int .i64 2]) (by simp [results, Tryz.results12, go_sem, p0, p1, p2]) rfl ?_
      exact ⟨rfl, HBs.out⟩
    · cases hw : winOk off with
      | true => exact absurd ⟨hr, by omega, hw⟩ hc
      | false =>
        clear hc hr
        rcases winOk_false hw with hw | hw
        · have hw9 := hw
          unfold fourV
          go_enter Tryz.func12, Tryz.ntmps12
          go_wp2_with fail
          clear c0 c1 c2
          generalize (((w.alloc (.cells #[.slice (A 0) (C 0).length (cp 0), .slice (A 1) (C 1).length (cp 1), .slice (A 2) (C 2).length (cp 2), .slice (A 3) (C 3).length (cp 3)] 30)).alloc (.cells #[.int .i64 r0, .int .i64 r1, .int .i64 r2] 40)).alloc (.cells #[.int .i64 lit, .int .i64 len, .int .i64 off] 42)).alloc (.cells #[.int .i64 0, .int .i64 0, .int .i64 0] 40) = w1 at *
          refine (HRr.out _).mono ?_
          rintro e w2 ⟨rfl, hb⟩
          have HP2 := hid (HP1.out.below hb HP1.out.lt)
          have HX2 := hid (HX1.out.below hb HX1.out.lt)
          have HS2 := hid (HS1.out.below hb HS1.out.lt)
          have HZ2 := hid (HZ1.out.below hb HZ1.out.lt)
          have HR2 := hid (HR1.out.low hb)
          have HB2 := hid (HB1.out.trans (hb.mono HB1.out.size))
          clear hb HP1 HX1 HS1 HZ1 HR1 HB1
          have e0 := HS2.out.cell (k := 0) rfl
          have e2 := HS2.out.cell (k := 2) rfl
          have y0 := HZ2.out.cell (k := 0) rfl
          have z0 := HZ2.out.frozen 0
          have y1 := HZ2.out.cell (k := 1) rfl
          have z1 := HZ2.out.frozen 1
          have y2 := HZ2.out.cell (k := 2) rfl
          have z2 := HZ2.out.frozen 2
          go_wp2
          clear e0 e2
          have HZs := hid (((HZ2.out.set 0 (.int .i64 0)).set 1 (.int .i64 0)).set 2 (.int .i64 0))
          have HBs := hid (((HB2.out.setCell (p := ⟨w.heap.size + 1 + 1 + 1, 0, none⟩) (by dsimp only; omega) (.int .i64 0)).setCell (p := ⟨w.heap.size + 1 + 1 + 1, 1, none⟩) (by dsimp only; omega) (.int .i64 0)).setCell (p := ⟨w.heap.size + 1 + 1 + 1, 2, none⟩) (by dsimp only; omega) (.int .i64 0))
          clear y0 y1 y2 z0 z1 z2
          have p0 := HZs.out.cell (k := 0) rfl
          have p1 := HZs.out.cell (k := 1) rfl
          have p2 := HZs.out.cell (k := 2) rfl
          refine bodyPost_ret (v := .tuple #[.int .i64 0, .agg #[.int .i64 0, .int .i64 0, .int .i64 0], .int .i64 2]) (by simp [results, Tryz.results12, go_sem, p0, p1, p2]) rfl ?_
          exact ⟨rfl, HBs.out⟩
        · have hw9 : ¬ off < 1 := by omega
          unfold fourV
          go_enter Tryz.func12, Tryz.ntmps12
          go_wp2_with fail
          clear c0 c1 c2
          generalize (((w.alloc (.cells #[.slice (A 0) (C 0).length (cp 0), .slice (A 1) (C 1).length (cp 1), .slice (A 2) (C 2).length (cp 2), .slice (A 3) (C 3).length (cp 3)] 30)).alloc (.cells #[.int .i64 r0, .int .i64 r1, .int .i64 r2] 40)).alloc (.cells #[.int .i64 lit, .int .i64 len, .int .i64 off] 42)).alloc (.cells #[.int .i64 0, .int .i64 0, .int .i64 0] 40) = w1 at *
          refine (HRr.out _).mono ?_
          rintro e w2 ⟨rfl, hb⟩
          have HP2 := hid (HP1.out.below hb HP1.out.lt)
          have HX2 := hid (HX1.out.below hb HX1.out.lt)
          have HS2 := hid (HS1.out.below hb HS1.out.lt)
          have HZ2 := hid (HZ1.out.below hb HZ1.out.lt)
          have HR2 := hid (HR1.out.low hb)
          have HB2 := hid (HB1.out.trans (hb.mono HB1.out.size))
          clear hb HP1 HX1 HS1 HZ1 HR1 HB1
          have e0 := HS2.out.cell (k := 0) rfl
          have e2 := HS2.out.cell (k := 2) rfl
          have y0 := HZ2.out.cell (k := 0) rfl
          have z0 := HZ2.out.frozen 0
          have y1 := HZ2.out.cell (k := 1) rfl
          have z1 := HZ2.out.frozen 1
          have y2 := HZ2.out.cell (k := 2) rfl
          have z2 := HZ2.out.frozen 2
          go_wp2
          clear e0 e2
          have HZs := hid (((HZ2.out.set 0 (.int .i64 0)).set 1 (.int .i64 0)).set 2 (.int .i64 0))
          have HBs := hid (((HB2.out.setCell (p := ⟨w.heap.size + 1 + 1 + 1, 0, none⟩) (by dsimp only; omega) (.int .i64 0)).setCell (p := ⟨w.heap.size + 1 + 1 + 1, 1, none⟩) (by dsimp only; omega) (.int .i64 0)).setCell (p := ⟨w.heap.size + 1 + 1 + 1, 2, none⟩) (by dsimp only; omega) (.int .i64 0))
          clear y0 y1 y2 z0 z1 z2
          have p0 := HZs.out.cell (k := 0) rfl
          have p1 := HZs.out.cell (k := 1) rfl
          have p2 := HZs.out.cell (k := 2) rfl
          refine bodyPost_ret (v := .tuple #[.int .i64 0, .agg #[.int .i64 0, .int .i64 0, .int .i64 0], .int .i64 2]) (by simp [results, Tryz.results12, go_sem, p0, p1, p2]) rfl ?_
          exact ⟨rfl, HBs.out⟩
set_option maxRecDepth 100000 in
set_option maxHeartbeats 8000000 in
theorem rseq_yyy (r0 r1 r2 lit len off : Int) (A : Nat → Option Addr) (cp : Nat → Nat) (C : Nat → List Int) (w : World) (h : RfAt w A cp C) (hlen : -9223372036854775808 ≤ len ∧ len ≤ 9223372036854775807) (hs : seqOk r0 r1 r2 lit off = true) (a : Int) (ha : numC C 1 lit = some a) (b : Int) (hb : numC C 2 (valF r0 r1 r2 lit off) = some b) (c : Int) (hc : lenC C len = some c) :
    Calls Tryz.prog 12 #[fourV A cp C, .agg #[.int .i64 r0, .int .i64 r1, .int .i64 r2], .agg #[.int .i64 lit, .int .i64 len, .int .i64 off]] w (RetV w (.tuple #[.int .i64 (a + b + c), nxtV (nextF r0 r1 r2 (toldF r0 r1 r2 lit (valF r0 r1 r2 lit off))), .int .i64 0])) := by
  have hbx : Below w.heap.size w ((((w.alloc (.cells #[.slice (A 0) (C 0).length (cp 0), .slice (A 1) (C 1).length (cp 1), .slice (A 2) (C 2).length (cp 2), .slice (A 3) (C 3).length (cp 3)] 30)).alloc (.cells #[.int .i64 r0, .int .i64 r1, .int .i64 r2] 40)).alloc (.cells #[.int .i64 lit, .int .i64 len, .int .i64 off] 42)).alloc (.cells #[.int .i64 0, .int .i64 0, .int .i64 0] 40)) := (((below_new w _).alloc (by simp) _).alloc (by simp; omega) _).alloc (by simp; omega) _
  have HP1 := hid (show Blk ((((w.alloc (.cells #[.slice (A 0) (C 0).length (cp 0), .slice (A 1) (C 1).length (cp 1), .slice (A 2) (C 2).length (cp 2), .slice (A 3) (C 3).length (cp 3)] 30)).alloc (.cells #[.int .i64 r0, .int .i64 r1, .int .i64 r2] 40)).alloc (.cells #[.int .i64 lit, .int .i64 len, .int .i64 off] 42)).alloc (.cells #[.int .i64 0, .int .i64 0, .int .i64 0] 40)) w.heap.size [.slice (A 0) (C 0).length (cp 0), .slice (A 1) (C 1).length (cp 1), .slice (A 2) (C 2).length (cp 2), .slice (A 3) (C 3).length (cp 3)] 30 from (((Blk.newAt rfl).alloc _).alloc _).alloc _)
  have HX1 := hid (show Blk ((((w.alloc (.cells #[.slice (A 0) (C 0).length (cp 0), .slice (A 1) (C 1).length (cp 1), .slice (A 2) (C 2).length (cp 2), .slice (A 3) (C 3).length (cp 3)] 30)).alloc (.cells #[.int .i64 r0, .int .i64 r1, .int .i64 r2] 40)).alloc (.cells #[.int .i64 lit, .int .i64 len, .int .i64 off] 42)).alloc (.cells #[.int .i64 0, .int .i64 0, .int .i64 0] 40)) (w.heap.size + 1) [.int .i64 r0, .int .i64 r1, .int .i64 r2] 40 from ((Blk.newAt (by simp)).alloc _).alloc _)
  have HS1 := hid (show Blk ((((w.alloc (.cells #[.slice (A 0) (C 0).length (cp 0), .slice (A 1) (C 1).length (cp 1), .slice (A 2) (C 2).length (cp 2), .slice (A 3) (C 3).length (cp 3)] 30)).alloc (.cells #[.int .i64 r0, .int .i64 r1, .int .i64 r2] 40)).alloc (.cells #[.int .i64 lit, .int .i64 len, .int .i64 off] 42)).alloc (.cells #[.int .i64 0, .int .i64 0, .int .i64 0] 40)) (w.heap.size + 1 + 1) [.int .i64 lit, .int .i64 len, .int .i64 off] 42 from (Blk.newAt (by simp)).alloc _)
  have HZ1 := hid (show Blk ((((w.alloc (.cells #[.slice (A 0) (C 0).length (cp 0), .slice (A 1) (C 1).length (cp 1), .slice (A 2) (C 2).length (cp 2), .slice (A 3) (C 3).length (cp 3)] 30)).alloc (.cells #[.int .i64 r0, .int .i64 r1, .int .i64 r2] 40)).alloc (.cells #[.int .i64 lit, .int .i64 len, .int .i64 off] 42)).alloc (.cells #[.int .i64 0, .int .i64 0, .int .i64 0] 40)) (w.heap.size + 1 + 1 + 1) [.int .i64 0, .int .i64 0, .int .i64 0] 40 from Blk.newAt (by simp))
  have HR1 := hid (h.low hbx)
  have HB1 := hid hbx
  have c0 := HX1.out.cell (k := 0) rfl
  have c1 := HX1.out.cell (k := 1) rfl
  have c2 := HX1.out.cell (k := 2) rfl
  obtain ⟨hr, hl, hw⟩ := seqOk_true hs
  have HRr := hid (fun W => by have h := rright21_any r0 r1 r2 W; rw [hr] at h; exact h)
  obtain ⟨n0, n1, n2, hn⟩ : ∃ n0 n1 n2, nextF r0 r1 r2 (toldF r0 r1 r2 lit (valF r0 r1 r2 lit off)) = (n0, n1, n2) := ⟨_, _, _, rfl⟩
  have hV := fun W => rvalue_any r0 r1 r2 lit off hr hl hw W
  rw [hn] at hV
  have HVl : Hid (∀ W, Calls Tryz.prog 37 #[.agg #[.int .i64 r0, .int .i64 r1, .int .i64 r2], .int .i64 lit, .int .i64 off] W (RetV W (.tuple #[.int .i64 (valF r0 r1 r2 lit off), .agg #[.int .i64 n0, .int .i64 n1, .int .i64 n2], .int .i64 0]))) := hid hV
  have HC1 : Hid (∀ W, RfAt W A cp C → Calls Tryz.prog 38 #[fourV A cp C, .int .i64 lit] W (RetV W (.tuple #[.int .i64 a, .int .i64 0]))) := hid (fun W hW => by have h := rcount_any A cp C W hW lit; rw [ha] at h; exact h)
  have HC2 : Hid (∀ W, RfAt W A cp C → Calls Tryz.prog 39 #[fourV A cp C, .int .i64 (valF r0 r1 r2 lit off)] W (RetV W (.tuple #[.int .i64 b, .int .i64 0]))) := hid (fun W hW => by have h := roff_any A cp C W hW (valF r0 r1 r2 lit off); rw [hb] at h; exact h)
  have HC3 : Hid (∀ W, RfAt W A cp C → Calls Tryz.prog 40 #[fourV A cp C, .int .i64 len] W (RetV W (.tuple #[.int .i64 c, .int .i64 0]))) := hid (fun W hW => by have h := rlen32_any A cp C W hW len hlen.1 hlen.2; rw [hc] at h; exact h)
  unfold fourV at HC1 HC2 HC3
  have q1 := numC_bounds (by decide) (h.ok 1 (by decide)) ha
  have q2 := numC_bounds (by decide) (h.ok 2 (by decide)) hb
  have q3 := lenC_bounds h.ok hc
  have hw1 : IntKind.i64.wrap (a + b) = a + b := by rw [IntKind.wrap_i64]; omega
  have hw2 : IntKind.i64.wrap (a + b + c) = a + b + c := by rw [IntKind.wrap_i64]; omega
  generalize hU : (Value.tuple #[.int .i64 (a + b + c), nxtV (nextF r0 r1 r2 (toldF r0 r1 r2 lit (valF r0 r1 r2 lit off))), .int .i64 0]) = U
  rw [hn] at hU
  subst hU
  have hwo := winOk_true hw
  have hl9 : ¬ lit < 0 := by omega
  have ho1 : ¬ off < 1 := by omega
  have ho2 : ¬ 134217728 < off := by omega
  clear h hbx hs hr hw hV hn hlen ha hb hc
  generalize valF r0 r1 r2 lit off = v at *
  unfold fourV
  go_enter Tryz.func12, Tryz.ntmps12
  go_wp2_with fail
  clear c0 c1 c2
  generalize (((w.alloc (.cells #[.slice (A 0) (C 0).length (cp 0), .slice (A 1) (C 1).length (cp 1), .slice (A 2) (C 2).length (cp 2), .slice (A 3) (C 3).length (cp 3)] 30)).alloc (.cells #[.int .i64 r0, .int .i64 r1, .int .i64 r2] 40)).alloc (.cells #[.int .i64 lit, .int .i64 len, .int .i64 off] 42)).alloc (.cells #[.int .i64 0, .int .i64 0, .int .i64 0] 40) = w1 at *
  refine (HRr.out _).mono ?_
  rintro e w2 ⟨rfl, hb⟩
  have HP2 := hid (HP1.out.below hb HP1.out.lt)
  have HX2 := hid (HX1.out.below hb HX1.out.lt)
  have HS2 := hid (HS1.out.below hb HS1.out.lt)
  have HZ2 := hid (HZ1.out.below hb HZ1.out.lt)
  have HR2 := hid (HR1.out.low hb)
  have HB2 := hid (HB1.out.trans (hb.mono HB1.out.size))
  clear hb HRr HP1 HX1 HS1 HZ1 HR1 HB1
  have c0 := HX2.out.cell (k := 0) rfl
  have c1 := HX2.out.cell (k := 1) rfl
  have c2 := HX2.out.cell (k := 2) rfl
  have e0 := HS2.out.cell (k := 0) rfl
  have e1 := HS2.out.cell (k := 1) rfl
  have e2 := HS2.out.cell (k := 2) rfl
  go_wp2_with fail
  clear c0 c1 c2 e0 e1 e2
  refine (HVl.out _).mono ?_
  rintro e w3 ⟨rfl, hb⟩
  have HP3 := hid (HP2.out.below hb HP2.out.lt)
  have HX3 := hid (HX2.out.below hb HX2.out.lt)
  have HS3 := hid (HS2.out.below hb HS2.out.lt)
  have HZ3 := hid (HZ2.out.below hb HZ2.out.lt)
  have HR3 := hid (HR2.out.low hb)
  have HB3 := hid (HB2.out.trans (hb.mono HB2.out.size))
  clear hb HVl HP2 HX2 HS2 HZ2 HR2 HB2
  go_upto_region 4 with fail
  have hb := below_new w3 (.cells #[.int .i64 n0, .int .i64 n1, .int .i64 n2] 40)
  have HN4 := hid (Blk.new w3 [.int .i64 n0, .int .i64 n1, .int .i64 n2] 40)
  have HP4 := hid (HP3.out.below hb HP3.out.lt)
  have HX4 := hid (HX3.out.below hb HX3.out.lt)
  have HS4 := hid (HS3.out.below hb HS3.out.lt)
  have HZ4 := hid (HZ3.out.below hb HZ3.out.lt)
  have HR4 := hid (HR3.out.low hb)
  have HB4 := hid (HB3.out.trans (hb.mono HB3.out.size))
  have hq6 : w.heap.size + 1 + 1 + 1 < w3.heap.size := HZ3.out.lt
  clear hb HP3 HX3 HS3 HZ3 HR3 HB3
  generalize w3.alloc (.cells #[.int .i64 n0, .int .i64 n1, .int .i64 n2] 40) = w4 at *
  generalize w3.heap.size = q6 at *
  have d0 := HP4.out.cell (k := 0) rfl
  have d1 := HP4.out.cell (k := 1) rfl
  have d2 := HP4.out.cell (k := 2) rfl
  have d3 := HP4.out.cell (k := 3) rfl
  have e0 := HS4.out.cell (k := 0) rfl
  have e1 := HS4.out.cell (k := 1) rfl
  have e2 := HS4.out.cell (k := 2) rfl
  go_wp2_with fail
  clear d0 d1 d2 d3 e0 e1 e2
  refine (HC1.out _ HR4.out).mono ?_
  rintro e w5 ⟨rfl, hb⟩
  have HP5 := hid (HP4.out.below hb HP4.out.lt)
  have HX5 := hid (HX4.out.below hb HX4.out.lt)
  have HS5 := hid (HS4.out.below hb HS4.out.lt)
  have HZ5 := hid (HZ4.out.below hb HZ4.out.lt)
  have HR5 := hid (HR4.out.low hb)
  have HB5 := hid (HB4.out.trans (hb.mono HB4.out.size))
  have HN5 := hid (HN4.out.below hb HN4.out.lt)
  clear hb HC1 HN4 HP4 HX4 HS4 HZ4 HR4 HB4
  have d0 := HP5.out.cell (k := 0) rfl
  have d1 := HP5.out.cell (k := 1) rfl
  have d2 := HP5.out.cell (k := 2) rfl
  have d3 := HP5.out.cell (k := 3) rfl
  have e0 := HS5.out.cell (k := 0) rfl
  have e1 := HS5.out.cell (k := 1) rfl
  have e2 := HS5.out.cell (k := 2) rfl
  go_wp2_with fail
  clear d0 d1 d2 d3 e0 e1 e2
  refine (HC2.out _ HR5.out).mono ?_
  rintro e w6 ⟨rfl, hb⟩
  have HP6 := hid (HP5.out.below hb HP5.out.lt)
  have HX6 := hid (HX5.out.below hb HX5.out.lt)
  have HS6 := hid (HS5.out.below hb HS5.out.lt)
  have HZ6 := hid (HZ5.out.below hb HZ5.out.lt)
  have HR6 := hid (HR5.out.low hb)
  have HB6 := hid (HB5.out.trans (hb.mono HB5.out.size))
  have HN6 := hid (HN5.out.below hb HN5.out.lt)
  clear hb HC2 HN5 HP5 HX5 HS5 HZ5 HR5 HB5
  have d0 := HP6.out.cell (k := 0) rfl
  have d1 := HP6.out.cell (k := 1) rfl
  have d2 := HP6.out.cell (k := 2) rfl
  have d3 := HP6.out.cell (k := 3) rfl
  have e0 := HS6.out.cell (k := 0) rfl
  have e1 := HS6.out.cell (k := 1) rfl
  have e2 := HS6.out.cell (k := 2) rfl
  go_wp2_with fail
  clear d0 d1 d2 d3 e0 e1 e2
  refine (HC3.out _ HR6.out).mono ?_
  rintro e w7 ⟨rfl, hb⟩
  have HP7 := hid (HP6.out.below hb HP6.out.lt)
  have HX7 := hid (HX6.out.below hb HX6.out.lt)
  have HS7 := hid (HS6.out.below hb HS6.out.lt)
  have HZ7 := hid (HZ6.out.below hb HZ6.out.lt)
  have HR7 := hid (HR6.out.low hb)
  have HB7 := hid (HB6.out.trans (hb.mono HB6.out.size))
  have HN7 := hid (HN6.out.below hb HN6.out.lt)
  clear hb HC3 HN6 HP6 HX6 HS6 HZ6 HR6 HB6
  go_upto_region 9 with fail
  have HBd := hid (show Below w7.heap.size w7 w7.drew from (Below.refl _ _).drew)
  have HQd := hid (HN7.out.below HBd.out HN7.out.lt)
  have HZd := hid (HZ7.out.below HBd.out HZ7.out.lt)
  have HBx := hid (HB7.out.trans (HBd.out.mono HB7.out.size))
  have hne : (w.heap.size + 1 + 1 + 1 : Nat) ≠ q6 := by omega
  refine wp_region_noPanic ?_
  refine wp_region_held_drew (S := fun W' => Blk W' (q6) [.int .i64 n0, .int .i64 n1, .int .i64 n2] 40) (by kernel_rfl) HQd.out (fun hHeld => ?_)
  clear HBd
  generalize w7.drew = wd at *
  refine wpAnyH_take (i := 0) (v := .int .i64 a) (by simp only [List.getElem?_toArray, List.getElem?_cons_zero]; rfl) (by kernel_rfl) (by kernel_rfl) (by kernel_rfl) (fun _ _ _ h => h) (Or.inl ⟨by rfl, fun W hSw => ?_⟩) (by assumption) ?_
  · clear hSw
    go_simp
  simp only [Act.put, List.setIfInBounds_toArray, List.set_cons_zero, List.set_cons_succ]
  refine wpAnyH_take (i := 1) (v := .int .i64 b) (by simp only [List.getElem?_toArray, List.getElem?_cons_zero, List.getElem?_cons_succ]; rfl) (by kernel_rfl) (by kernel_rfl) (by kernel_rfl) (fun _ _ _ h => h) (Or.inl ⟨by rfl, fun W hSw => ?_⟩) (by assumption) ?_
  · clear hSw
    go_simp
  simp only [Act.put, List.setIfInBounds_toArray, List.set_cons_zero, List.set_cons_succ]
  refine wpAnyH_take (i := 2) (v := .int .i64 (a + b)) (by simp only [List.getElem?_toArray, List.getElem?_cons_zero, List.getElem?_cons_succ]; rfl) (by kernel_rfl) (by kernel_rfl) (by kernel_rfl) (fun _ _ _ h => h) (Or.inl ⟨by rfl, fun W hSw => ?_⟩) (by assumption) ?_
  · clear hSw
    go_simp
  simp only [Act.put, List.setIfInBounds_toArray, List.set_cons_zero, List.set_cons_succ]
  refine wpAnyH_take (i := 3) (v := .int .i64 c) (by simp only [List.getElem?_toArray, List.getElem?_cons_zero, List.getElem?_cons_succ]; rfl) (by kernel_rfl) (by kernel_rfl) (by kernel_rfl) (fun _ _ _ h => h) (Or.inl ⟨by rfl, fun W hSw => ?_⟩) (by assumption) ?_
  · clear hSw
    go_simp
  simp only [Act.put, List.setIfInBounds_toArray, List.set_cons_zero, List.set_cons_succ]
  refine wpAnyH_take (i := 4) (v := .int .i64 (a + b + c)) (by simp only [List.getElem?_toArray, List.getElem?_cons_zero, List.getElem?_cons_succ]; rfl) (by kernel_rfl) (by kernel_rfl) (by kernel_rfl) (fun _ _ _ h => h) (Or.inl ⟨by rfl, fun W hSw => ?_⟩) (by assumption) ?_
  · clear hSw
    go_simp
  simp only [Act.put, List.setIfInBounds_toArray, List.set_cons_zero, List.set_cons_succ]
  refine wpAnyH_take (i := 5) (v := .agg #[.int .i64 n0, .int .i64 n1, .int .i64 n2]) (by simp only [List.getElem?_toArray, List.getElem?_cons_zero, List.getElem?_cons_succ]; rfl) (by kernel_rfl) (by kernel_rfl) (by kernel_rfl) (fun _ _ _ h => h) (Or.inl ⟨by rfl, fun W hSw => ?_⟩) (by assumption) ?_
  · have hcw0 := hSw.cell (k := 0) rfl
    have hcw1 := hSw.cell (k := 1) rfl
    have hcw2 := hSw.cell (k := 2) rfl
    go_simp
  simp only [Act.put, List.setIfInBounds_toArray, List.set_cons_zero, List.set_cons_succ]
  refine wpAnyH_ready (rs := [6]) (by kernel_rfl) (by simp) ?_
  refine AllReadyH.cons (by simp only [List.getElem?_toArray, List.getElem?_cons_zero, List.getElem?_cons_succ]; rfl) (fun K hK => ?_) AllReadyH.nil
  rw [if_pos (by rfl)]
  go_simp
  refine hK.out _ _ HQd.out (fun _ => ?_)
  clear hK K
  have y0 := HZd.out.cell (k := 0) rfl
  have z0 := HZd.out.frozen 0
  have y1 := HZd.out.cell (k := 1) rfl
  have z1 := HZd.out.frozen 1
  have y2 := HZd.out.cell (k := 2) rfl
  have z2 := HZd.out.frozen 2
  have HZs := hid (((HZd.out.set 0 (.int .i64 n0)).set 1 (.int .i64 n1)).set 2 (.int .i64 n2))
  have HQs := hid (((HQd.out.other (a := ⟨w.heap.size + 1 + 1 + 1, 0, none⟩) (.int .i64 n0) hne).other (a := ⟨w.heap.size + 1 + 1 + 1, 1, none⟩) (.int .i64 n1) hne).other (a := ⟨w.heap.size + 1 + 1 + 1, 2, none⟩) (.int .i64 n2) hne)
  have HBs := hid (((HBx.out.setCell (p := ⟨w.heap.size + 1 + 1 + 1, 0, none⟩) (by dsimp only; omega) (.int .i64 n0)).setCell (p := ⟨w.heap.size + 1 + 1 + 1, 1, none⟩) (by dsimp only; omega) (.int .i64 n1)).setCell (p := ⟨w.heap.size + 1 + 1 + 1, 2, none⟩) (by dsimp only; omega) (.int .i64 n2))
  refine wpAnyH_ready (rs := [7]) (by kernel_rfl) (by simp) ?_
  refine AllReadyH.cons (by simp only [List.getElem?_toArray, List.getElem?_cons_zero, List.getElem?_cons_succ]; rfl) (fun K hK => ?_) AllReadyH.nil
  rw [if_pos (by rfl)]
  go_simp
  refine hK.out _ _ HQs.out (fun _ => ?_)
  clear hK K
  clear y0 y1 y2 z0 z1 z2
  generalize ((wd.setCell ⟨w.heap.size + 1 + 1 + 1, 0, none⟩ (.int .i64 n0)).setCell ⟨w.heap.size + 1 + 1 + 1, 1, none⟩ (.int .i64 n1)).setCell ⟨w.heap.size + 1 + 1 + 1, 2, none⟩ (.int .i64 n2) = ws at *
  refine wpAnyH_ready (rs := [8]) (by kernel_rfl) (by simp) ?_
  refine AllReadyH.cons (by simp only [List.getElem?_toArray, List.getElem?_cons_zero, List.getElem?_cons_succ]; rfl) (fun K hK => ?_) AllReadyH.nil
  rw [if_pos (by rfl)]
  go_simp
  refine hK.out _ _ HQs.out (fun _ => ?_)
  clear hK K
  refine wpAnyH_done (by kernel_rfl) ?_ _
  refine NoPanic.normal ?_
  have p0 := HZs.out.cell (k := 0) rfl
  have p1 := HZs.out.cell (k := 1) rfl
  have p2 := HZs.out.cell (k := 2) rfl
  go_wp2
  refine bodyPost_ret (v := .tuple #[.int .i64 (a + b + c), .agg #[.int .i64 n0, .int .i64 n1, .int .i64 n2], .int .i64 0]) (by simp [results, Tryz.results12, go_sem, p0, p1, p2]) rfl ?_
  exact ⟨rfl, HBs.out⟩
set_option maxRecDepth 100000 in
set_option maxHeartbeats 8000000 in
theorem rseq_yyn (r0 r1 r2 lit len off : Int) (A : Nat → Option Addr) (cp : Nat → Nat) (C : Nat → List Int) (w : World) (h : RfAt w A cp C) (hlen : -9223372036854775808 ≤ len ∧ len ≤ 9223372036854775807) (hs : seqOk r0 r1 r2 lit off = true) (a : Int) (ha : numC C 1 lit = some a) (b : Int) (hb : numC C 2 (valF r0 r1 r2 lit off) = some b) (hc : lenC C len = none) :
    Calls Tryz.prog 12 #[fourV A cp C, .agg #[.int .i64 r0, .int .i64 r1, .int .i64 r2], .agg #[.int .i64 lit, .int .i64 len, .int .i64 off]] w (RetV w (.tuple #[.int .i64 0, .agg #[.int .i64 0, .int .i64 0, .int .i64 0], .int .i64 2])) := by
  have hbx : Below w.heap.size w ((((w.alloc (.cells #[.slice (A 0) (C 0).length (cp 0), .slice (A 1) (C 1).length (cp 1), .slice (A 2) (C 2).length (cp 2), .slice (A 3) (C 3).length (cp 3)] 30)).alloc (.cells #[.int .i64 r0, .int .i64 r1, .int .i64 r2] 40)).alloc (.cells #[.int .i64 lit, .int .i64 len, .int .i64 off] 42)).alloc (.cells #[.int .i64 0, .int .i64 0, .int .i64 0] 40)) := (((below_new w _).alloc (by simp) _).alloc (by simp; omega) _).alloc (by simp; omega) _
  have HP1 := hid (show Blk ((((w.alloc (.cells #[.slice (A 0) (C 0).length (cp 0), .slice (A 1) (C 1).length (cp 1), .slice (A 2) (C 2).length (cp 2), .slice (A 3) (C 3).length (cp 3)] 30)).alloc (.cells #[.int .i64 r0, .int .i64 r1, .int .i64 r2] 40)).alloc (.cells #[.int .i64 lit, .int .i64 len, .int .i64 off] 42)).alloc (.cells #[.int .i64 0, .int .i64 0, .int .i64 0] 40)) w.heap.size [.slice (A 0) (C 0).length (cp 0), .slice (A 1) (C 1).length (cp 1), .slice (A 2) (C 2).length (cp 2), .slice (A 3) (C 3).length (cp 3)] 30 from (((Blk.newAt rfl).alloc _).alloc _).alloc _)
  have HX1 := hid (show Blk ((((w.alloc (.cells #[.slice (A 0) (C 0).length (cp 0), .slice (A 1) (C 1).length (cp 1), .slice (A 2) (C 2).length (cp 2), .slice (A 3) (C 3).length (cp 3)] 30)).alloc (.cells #[.int .i64 r0, .int .i64 r1, .int .i64 r2] 40)).alloc (.cells #[.int .i64 lit, .int .i64 len, .int .i64 off] 42)).alloc (.cells #[.int .i64 0, .int .i64 0, .int .i64 0] 40)) (w.heap.size + 1) [.int .i64 r0, .int .i64 r1, .int .i64 r2] 40 from ((Blk.newAt (by simp)).alloc _).alloc _)
  have HS1 := hid (show Blk ((((w.alloc (.cells #[.slice (A 0) (C 0).length (cp 0), .slice (A 1) (C 1).length (cp 1), .slice (A 2) (C 2).length (cp 2), .slice (A 3) (C 3).length (cp 3)] 30)).alloc (.cells #[.int .i64 r0, .int .i64 r1, .int .i64 r2] 40)).alloc (.cells #[.int .i64 lit, .int .i64 len, .int .i64 off] 42)).alloc (.cells #[.int .i64 0, .int .i64 0, .int .i64 0] 40)) (w.heap.size + 1 + 1) [.int .i64 lit, .int .i64 len, .int .i64 off] 42 from (Blk.newAt (by simp)).alloc _)
  have HZ1 := hid (show Blk ((((w.alloc (.cells #[.slice (A 0) (C 0).length (cp 0), .slice (A 1) (C 1).length (cp 1), .slice (A 2) (C 2).length (cp 2), .slice (A 3) (C 3).length (cp 3)] 30)).alloc (.cells #[.int .i64 r0, .int .i64 r1, .int .i64 r2] 40)).alloc (.cells #[.int .i64 lit, .int .i64 len, .int .i64 off] 42)).alloc (.cells #[.int .i64 0, .int .i64 0, .int .i64 0] 40)) (w.heap.size + 1 + 1 + 1) [.int .i64 0, .int .i64 0, .int .i64 0] 40 from Blk.newAt (by simp))
  have HR1 := hid (h.low hbx)
  have HB1 := hid hbx
  have c0 := HX1.out.cell (k := 0) rfl
  have c1 := HX1.out.cell (k := 1) rfl
  have c2 := HX1.out.cell (k := 2) rfl
  obtain ⟨hr, hl, hw⟩ := seqOk_true hs
  have HRr := hid (fun W => by have h := rright21_any r0 r1 r2 W; rw [hr] at h; exact h)
  obtain ⟨n0, n1, n2, hn⟩ : ∃ n0 n1 n2, nextF r0 r1 r2 (toldF r0 r1 r2 lit (valF r0 r1 r2 lit off)) = (n0, n1, n2) := ⟨_, _, _, rfl⟩
  have hV := fun W => rvalue_any r0 r1 r2 lit off hr hl hw W
  rw [hn] at hV
  have HVl : Hid (∀ W, Calls Tryz.prog 37 #[.agg #[.int .i64 r0, .int .i64 r1, .int .i64 r2], .int .i64 lit, .int .i64 off] W (RetV W (.tuple #[.int .i64 (valF r0 r1 r2 lit off), .agg #[.int .i64 n0, .int .i64 n1, .int .i64 n2], .int .i64 0]))) := hid hV
  have HC1 : Hid (∀ W, RfAt W A cp C → Calls Tryz.prog 38 #[fourV A cp C, .int .i64 lit] W (RetV W (.tuple #[.int .i64 a, .int .i64 0]))) := hid (fun W hW => by have h := rcount_any A cp C W hW lit; rw [ha] at h; exact h)
  have HC2 : Hid (∀ W, RfAt W A cp C → Calls Tryz.prog 39 #[fourV A cp C, .int .i64 (valF r0 r1 r2 lit off)] W (RetV W (.tuple #[.int .i64 b, .int .i64 0]))) := hid (fun W hW => by have h := roff_any A cp C W hW (valF r0 r1 r2 lit off); rw [hb] at h; exact h)
  have HC3 : Hid (∀ W, RfAt W A cp C → Calls Tryz.prog 40 #[fourV A cp C, .int .i64 len] W (RetV W (.tuple #[.int .i64 0, .int .i64 2]))) := hid (fun W hW => by have h := rlen32_any A cp C W hW len hlen.1 hlen.2; rw [hc] at h; exact h)
  unfold fourV at HC1 HC2 HC3
  have hwo := winOk_true hw
  have hl9 : ¬ lit < 0 := by omega
  have ho1 : ¬ off < 1 := by omega
  have ho2 : ¬ 134217728 < off := by omega
  clear h hbx hs hr hw hV hn hlen ha hb hc
  generalize valF r0 r1 r2 lit off = v at *
  unfold fourV
  go_enter Tryz.func12, Tryz.ntmps12
  go_wp2_with fail
  clear c0 c1 c2
  generalize (((w.alloc (.cells #[.slice (A 0) (C 0).length (cp 0), .slice (A 1) (C 1).length (cp 1), .slice (A 2) (C 2).length (cp 2), .slice (A 3) (C 3).length (cp 3)] 30)).alloc (.cells #[.int .i64 r0, .int .i64 r1, .int .i64 r2] 40)).alloc (.cells #[.int .i64 lit, .int .i64 len, .int .i64 off] 42)).alloc (.cells #[.int .i64 0, .int .i64 0, .int .i64 0] 40) = w1 at *
  refine (HRr.out _).mono ?_
  rintro e w2 ⟨rfl, hb⟩
  have HP2 := hid (HP1.out.below hb HP1.out.lt)
  have HX2 := hid (HX1.out.below hb HX1.out.lt)
  have HS2 := hid (HS1.out.below hb HS1.out.lt)
  have HZ2 := hid (HZ1.out.below hb HZ1.out.lt)
  have HR2 := hid (HR1.out.low hb)
  have HB2 := hid (HB1.out.trans (hb.mono HB1.out.size))
  clear hb HRr HP1 HX1 HS1 HZ1 HR1 HB1
  have c0 := HX2.out.cell (k := 0) rfl
  have c1 := HX2.out.cell (k := 1) rfl
  have c2 := HX2.out.cell (k := 2) rfl
  have e0 := HS2.out.cell (k := 0) rfl
  have e1 := HS2.out.cell (k := 1) rfl
  have e2 := HS2.out.cell (k := 2) rfl
  go_wp2_with fail
  clear c0 c1 c2 e0 e1 e2
  refine (HVl.out _).mono ?_
  rintro e w3 ⟨rfl, hb⟩
  have HP3 := hid (HP2.out.below hb HP2.out.lt)
  have HX3 := hid (HX2.out.below hb HX2.out.lt)
  have HS3 := hid (HS2.out.below hb HS2.out.lt)
  have HZ3 := hid (HZ2.out.below hb HZ2.out.lt)
  have HR3 := hid (HR2.out.low hb)
  have HB3 := hid (HB2.out.trans (hb.mono HB2.out.size))
  clear hb HVl HP2 HX2 HS2 HZ2 HR2 HB2
  go_upto_region 4 with fail
  have hb := below_new w3 (.cells #[.int .i64 n0, .int .i64 n1, .int .i64 n2] 40)
  have HN4 := hid (Blk.new w3 [.int .i64 n0, .int .i64 n1, .int .i64 n2] 40)
  have HP4 := hid (HP3.out.below hb HP3.out.lt)
  have HX4 := hid (HX3.out.below hb HX3.out.lt)
  have HS4 := hid (HS3.out.below hb HS3.out.lt)
  have HZ4 := hid (HZ3.out.below hb HZ3.out.lt)
  have HR4 := hid (HR3.out.low hb)
  have HB4 := hid (HB3.out.trans (hb.mono HB3.out.size))
  have hq6 : w.heap.size + 1 + 1 + 1 < w3.heap.size := HZ3.out.lt
  clear hb HP3 HX3 HS3 HZ3 HR3 HB3
  generalize w3.alloc (.cells #[.int .i64 n0, .int .i64 n1, .int .i64 n2] 40) = w4 at *
  generalize w3.heap.size = q6 at *
  have d0 := HP4.out.cell (k := 0) rfl
  have d1 := HP4.out.cell (k := 1) rfl
  have d2 := HP4.out.cell (k := 2) rfl
  have d3 := HP4.out.cell (k := 3) rfl
  have e0 := HS4.out.cell (k := 0) rfl
  have e1 := HS4.out.cell (k := 1) rfl
  have e2 := HS4.out.cell (k := 2) rfl
  go_wp2_with fail
  clear d0 d1 d2 d3 e0 e1 e2
  refine (HC1.out _ HR4.out).mono ?_
  rintro e w5 ⟨rfl, hb⟩
  have HP5 := hid (HP4.out.below hb HP4.out.lt)
  have HX5 := hid (HX4.out.below hb HX4.out.lt)
  have HS5 := hid (HS4.out.below hb HS4.out.lt)
  have HZ5 := hid (HZ4.out.below hb HZ4.out.lt)
  have HR5 := hid (HR4.out.low hb)
  have HB5 := hid (HB4.out.trans (hb.mono HB4.out.size))
  have HN5 := hid (HN4.out.below hb HN4.out.lt)
  clear hb HC1 HN4 HP4 HX4 HS4 HZ4 HR4 HB4
  have d0 := HP5.out.cell (k := 0) rfl
  have d1 := HP5.out.cell (k := 1) rfl
  have d2 := HP5.out.cell (k := 2) rfl
  have d3 := HP5.out.cell (k := 3) rfl
  have e0 := HS5.out.cell (k := 0) rfl
  have e1 := HS5.out.cell (k := 1) rfl
  have e2 := HS5.out.cell (k := 2) rfl
  go_wp2_with fail
  clear d0 d1 d2 d3 e0 e1 e2
  refine (HC2.out _ HR5.out).mono ?_
  rintro e w6 ⟨rfl, hb⟩
  have HP6 := hid (HP5.out.below hb HP5.out.lt)
  have HX6 := hid (HX5.out.below hb HX5.out.lt)
  have HS6 := hid (HS5.out.below hb HS5.out.lt)
  have HZ6 := hid (HZ5.out.below hb HZ5.out.lt)
  have HR6 := hid (HR5.out.low hb)
  have HB6 := hid (HB5.out.trans (hb.mono HB5.out.size))
  have HN6 := hid (HN5.out.below hb HN5.out.lt)
  clear hb HC2 HN5 HP5 HX5 HS5 HZ5 HR5 HB5
  have d0 := HP6.out.cell (k := 0) rfl
  have d1 := HP6.out.cell (k := 1) rfl
  have d2 := HP6.out.cell (k := 2) rfl
  have d3 := HP6.out.cell (k := 3) rfl
  have e0 := HS6.out.cell (k := 0) rfl
  have e1 := HS6.out.cell (k := 1) rfl
  have e2 := HS6.out.cell (k := 2) rfl
  go_wp2_with fail
  clear d0 d1 d2 d3 e0 e1 e2
  refine (HC3.out _ HR6.out).mono ?_
  rintro e w7 ⟨rfl, hb⟩
  have HP7 := hid (HP6.out.below hb HP6.out.lt)
  have HX7 := hid (HX6.out.below hb HX6.out.lt)
  have HS7 := hid (HS6.out.below hb HS6.out.lt)
  have HZ7 := hid (HZ6.out.below hb HZ6.out.lt)
  have HR7 := hid (HR6.out.low hb)
  have HB7 := hid (HB6.out.trans (hb.mono HB6.out.size))
  have HN7 := hid (HN6.out.below hb HN6.out.lt)
  clear hb HC3 HN6 HP6 HX6 HS6 HZ6 HR6 HB6
  have y0 := HZ7.out.cell (k := 0) rfl
  have z0 := HZ7.out.frozen 0
  have y1 := HZ7.out.cell (k := 1) rfl
  have z1 := HZ7.out.frozen 1
  have y2 := HZ7.out.cell (k := 2) rfl
  have z2 := HZ7.out.frozen 2
  go_wp2
  have HZs := hid (((HZ7.out.set 0 (.int .i64 0)).set 1 (.int .i64 0)).set 2 (.int .i64 0))
  have HBs := hid (((HB7.out.setCell (p := ⟨w.heap.size + 1 + 1 + 1, 0, none⟩) (by dsimp only; omega) (.int .i64 0)).setCell (p := ⟨w.heap.size + 1 + 1 + 1, 1, none⟩) (by dsimp only; omega) (.int .i64 0)).setCell (p := ⟨w.heap.size + 1 + 1 + 1, 2, none⟩) (by dsimp only; omega) (.int .i64 0))
  clear y0 y1 y2 z0 z1 z2
  have p0 := HZs.out.cell (k := 0) rfl
  have p1 := HZs.out.cell (k := 1) rfl
  have p2 := HZs.out.cell (k := 2) rfl
  refine bodyPost_ret (v := .tuple #[.int .i64 0, .agg #[.int .i64 0, .int .i64 0, .int .i64 0], .int .i64 2]) (by simp [results, Tryz.results12, go_sem, p0, p1, p2]) rfl ?_
  exact ⟨rfl, HBs.out⟩
set_option maxRecDepth 100000 in
set_option maxHeartbeats 8000000 in
theorem rseq_yny (r0 r1 r2 lit len off : Int) (A : Nat → Option Addr) (cp : Nat → Nat) (C : Nat → List Int) (w : World) (h : RfAt w A cp C) (hlen : -9223372036854775808 ≤ len ∧ len ≤ 9223372036854775807) (hs : seqOk r0 r1 r2 lit off = true) (a : Int) (ha : numC C 1 lit = some a) (hb : numC C 2 (valF r0 r1 r2 lit off) = none) (c : Int) (hc : lenC C len = some c) :
    Calls Tryz.prog 12 #[fourV A cp C, .agg #[.int .i64 r0, .int .i64 r1, .int .i64 r2], .agg #[.int .i64 lit, .int .i64 len, .int .i64 off]] w (RetV w (.tuple #[.int .i64 0, .agg #[.int .i64 0, .int .i64 0, .int .i64 0], .int .i64 2])) := by
  have hbx : Below w.heap.size w ((((w.alloc (.cells #[.slice (A 0) (C 0).length (cp 0), .slice (A 1) (C 1).length (cp 1), .slice (A 2) (C 2).length (cp 2), .slice (A 3) (C 3).length (cp 3)] 30)).alloc (.cells #[.int .i64 r0, .int .i64 r1, .int .i64 r2] 40)).alloc (.cells #[.int .i64 lit, .int .i64 len, .int .i64 off] 42)).alloc (.cells #[.int .i64 0, .int .i64 0, .int .i64 0] 40)) := (((below_new w _).alloc (by simp) _).alloc (by simp; omega) _).alloc (by simp; omega) _
  have HP1 := hid (show Blk ((((w.alloc (.cells #[.slice (A 0) (C 0).length (cp 0), .slice (A 1) (C 1).length (cp 1), .slice (A 2) (C 2).length (cp 2), .slice (A 3) (C 3).length (cp 3)] 30)).alloc (.cells #[.int .i64 r0, .int .i64 r1, .int .i64 r2] 40)).alloc (.cells #[.int .i64 lit, .int .i64 len, .int .i64 off] 42)).alloc (.cells #[.int .i64 0, .int .i64 0, .int .i64 0] 40)) w.heap.size [.slice (A 0) (C 0).length (cp 0), .slice (A 1) (C 1).length (cp 1), .slice (A 2) (C 2).length (cp 2), .slice (A 3) (C 3).length (cp 3)] 30 from (((Blk.newAt rfl).alloc _).alloc _).alloc _)
  have HX1 := hid (show Blk ((((w.alloc (.cells #[.slice (A 0) (C 0).length (cp 0), .slice (A 1) (C 1).length (cp 1), .slice (A 2) (C 2).length (cp 2), .slice (A 3) (C 3).length (cp 3)] 30)).alloc (.cells #[.int .i64 r0, .int .i64 r1, .int .i64 r2] 40)).alloc (.cells #[.int .i64 lit, .int .i64 len, .int .i64 off] 42)).alloc (.cells #[.int .i64 0, .int .i64 0, .int .i64 0] 40)) (w.heap.size + 1) [.int .i64 r0, .int .i64 r1, .int .i64 r2] 40 from ((Blk.newAt (by simp)).alloc _).alloc _)
  have HS1 := hid (show Blk ((((w.alloc (.cells #[.slice (A 0) (C 0).length (cp 0), .slice (A 1) (C 1).length (cp 1), .slice (A 2) (C 2).length (cp 2), .slice (A 3) (C 3).length (cp 3)] 30)).alloc (.cells #[.int .i64 r0, .int .i64 r1, .int .i64 r2] 40)).alloc (.cells #[.int .i64 lit, .int .i64 len, .int .i64 off] 42)).alloc (.cells #[.int .i64 0, .int .i64 0, .int .i64 0] 40)) (w.heap.size + 1 + 1) [.int .i64 lit, .int .i64 len, .int .i64 off] 42 from (Blk.newAt (by simp)).alloc _)
  have HZ1 := hid (show Blk ((((w.alloc (.cells #[.slice (A 0) (C 0).length (cp 0), .slice (A 1) (C 1).length (cp 1), .slice (A 2) (C 2).length (cp 2), .slice (A 3) (C 3).length (cp 3)] 30)).alloc (.cells #[.int .i64 r0, .int .i64 r1, .int .i64 r2] 40)).alloc (.cells #[.int .i64 lit, .int .i64 len, .int .i64 off] 42)).alloc (.cells #[.int .i64 0, .int .i64 0, .int .i64 0] 40)) (w.heap.size + 1 + 1 + 1) [.int .i64 0, .int .i64 0, .int .i64 0] 40 from Blk.newAt (by simp))
  have HR1 := hid (h.low hbx)
  have HB1 := hid hbx
  have c0 := HX1.out.cell (k := 0) rfl
  have c1 := HX1.out.cell (k := 1) rfl
  have c2 := HX1.out.cell (k := 2) rfl
  obtain ⟨hr, hl, hw⟩ := seqOk_true hs
  have HRr := hid (fun W => by have h := rright21_any r0 r1 r2 W; rw [hr] at h; exact h)
  obtain ⟨n0, n1, n2, hn⟩ : ∃ n0 n1 n2, nextF r0 r1 r2 (toldF r0 r1 r2 lit (valF r0 r1 r2 lit off)) = (n0, n1, n2) := ⟨_, _, _, rfl⟩
  have hV := fun W => rvalue_any r0 r1 r2 lit off hr hl hw W
  rw [hn] at hV
  have HVl : Hid (∀ W, Calls Tryz.prog 37 #[.agg #[.int .i64 r0, .int .i64 r1, .int .i64 r2], .int .i64 lit, .int .i64 off] W (RetV W (.tuple #[.int .i64 (valF r0 r1 r2 lit off), .agg #[.int .i64 n0, .int .i64 n1, .int .i64 n2], .int .i64 0]))) := hid hV
  have HC1 : Hid (∀ W, RfAt W A cp C → Calls Tryz.prog 38 #[fourV A cp C, .int .i64 lit] W (RetV W (.tuple #[.int .i64 a, .int .i64 0]))) := hid (fun W hW => by have h := rcount_any A cp C W hW lit; rw [ha] at h; exact h)
  have HC2 : Hid (∀ W, RfAt W A cp C → Calls Tryz.prog 39 #[fourV A cp C, .int .i64 (valF r0 r1 r2 lit off)] W (RetV W (.tuple #[.int .i64 0, .int .i64 2]))) := hid (fun W hW => by have h := roff_any A cp C W hW (valF r0 r1 r2 lit off); rw [hb] at h; exact h)
  have HC3 : Hid (∀ W, RfAt W A cp C → Calls Tryz.prog 40 #[fourV A cp C, .int .i64 len] W (RetV W (.tuple #[.int .i64 c, .int .i64 0]))) := hid (fun W hW => by have h := rlen32_any A cp C W hW len hlen.1 hlen.2; rw [hc] at h; exact h)
  unfold fourV at HC1 HC2 HC3
  have hwo := winOk_true hw
  have hl9 : ¬ lit < 0 := by omega
  have ho1 : ¬ off < 1 := by omega
  have ho2 : ¬ 134217728 < off := by omega
  clear h hbx hs hr hw hV hn hlen ha hb hc
  generalize valF r0 r1 r2 lit off = v at *
  unfold fourV
  go_enter Tryz.func12, Tryz.ntmps12
  go_wp2_with fail
  clear c0 c1 c2
  generalize (((w.alloc (.cells #[.slice (A 0) (C 0).length (cp 0), .slice (A 1) (C 1).length (cp 1), .slice (A 2) (C 2).length (cp 2), .slice (A 3) (C 3).length (cp 3)] 30)).alloc (.cells #[.int .i64 r0, .int .i64 r1, .int .i64 r2] 40)).alloc (.cells #[.int .i64 lit, .int .i64 len, .int .i64 off] 42)).alloc (.cells #[.int .i64 0, .int .i64 0, .int .i64 0] 40) = w1 at *
  refine (HRr.out _).mono ?_
  rintro e w2 ⟨rfl, hb⟩
  have HP2 := hid (HP1.out.below hb HP1.out.lt)
  have HX2 := hid (HX1.out.below hb HX1.out.lt)
  have HS2 := hid (HS1.out.below hb HS1.out.lt)
  have HZ2 := hid (HZ1.out.below hb HZ1.out.lt)
  have HR2 := hid (HR1.out.low hb)
  have HB2 := hid (HB1.out.trans (hb.mono HB1.out.size))
  clear hb HRr HP1 HX1 HS1 HZ1 HR1 HB1
  have c0 := HX2.out.cell (k := 0) rfl
  have c1 := HX2.out.cell (k := 1) rfl
  have c2 := HX2.out.cell (k := 2) rfl
  have e0 := HS2.out.cell (k := 0) rfl
  have e1 := HS2.out.cell (k := 1) rfl
  have e2 := HS2.out.cell (k := 2) rfl
  go_wp2_with fail
  clear c0 c1 c2 e0 e1 e2
  refine (HVl.out _).mono ?_
  rintro e w3 ⟨rfl, hb⟩
  have HP3 := hid (HP2.out.below hb HP2.out.lt)
  have HX3 := hid (HX2.out.below hb HX2.out.lt)
  have HS3 := hid (HS2.out.below hb HS2.out.lt)
  have HZ3 := hid (HZ2.out.below hb HZ2.out.lt)
  have HR3 := hid (HR2.out.low hb)
  have HB3 := hid (HB2.out.trans (hb.mono HB2.out.size))
  clear hb HVl HP2 HX2 HS2 HZ2 HR2 HB2
  go_upto_region 4 with fail
  have hb := below_new w3 (.cells #[.int .i64 n0, .int .i64 n1, .int .i64 n2] 40)
  have HN4 := hid (Blk.new w3 [.int .i64 n0, .int .i64 n1, .int .i64 n2] 40)
  have HP4 := hid (HP3.out.below hb HP3.out.lt)
  have HX4 := hid (HX3.out.below hb HX3.out.lt)
  have HS4 := hid (HS3.out.below hb HS3.out.lt)
  have HZ4 := hid (HZ3.out.below hb HZ3.out.lt)
  have HR4 := hid (HR3.out.low hb)
  have HB4 := hid (HB3.out.trans (hb.mono HB3.out.size))
  have hq6 : w.heap.size + 1 + 1 + 1 < w3.heap.size := HZ3.out.lt
  clear hb HP3 HX3 HS3 HZ3 HR3 HB3
  generalize w3.alloc (.cells #[.int .i64 n0, .int .i64 n1, .int .i64 n2] 40) = w4 at *
  generalize w3.heap.size = q6 at *
  have d0 := HP4.out.cell (k := 0) rfl
  have d1 := HP4.out.cell (k := 1) rfl
  have d2 := HP4.out.cell (k := 2) rfl
  have d3 := HP4.out.cell (k := 3) rfl
  have e0 := HS4.out.cell (k := 0) rfl
  have e1 := HS4.out.cell (k := 1) rfl
  have e2 := HS4.out.cell (k := 2) rfl
  go_wp2_with fail
  clear d0 d1 d2 d3 e0 e1 e2
  refine (HC1.out _ HR4.out).mono ?_
  rintro e w5 ⟨rfl, hb⟩
  have HP5 := hid (HP4.out.below hb HP4.out.lt)
  have HX5 := hid (HX4.out.below hb HX4.out.lt)
  have HS5 := hid (HS4.out.below hb HS4.out.lt)
  have HZ5 := hid (HZ4.out.below hb HZ4.out.lt)
  have HR5 := hid (HR4.out.low hb)
  have HB5 := hid (HB4.out.trans (hb.mono HB4.out.size))
  have HN5 := hid (HN4.out.below hb HN4.out.lt)
  clear hb HC1 HN4 HP4 HX4 HS4 HZ4 HR4 HB4
  have d0 := HP5.out.cell (k := 0) rfl
  have d1 := HP5.out.cell (k := 1) rfl
  have d2 := HP5.out.cell (k := 2) rfl
  have d3 := HP5.out.cell (k := 3) rfl
  have e0 := HS5.out.cell (k := 0) rfl
  have e1 := HS5.out.cell (k := 1) rfl
  have e2 := HS5.out.cell (k := 2) rfl
  go_wp2_with fail
  clear d0 d1 d2 d3 e0 e1 e2
  refine (HC2.out _ HR5.out).mono ?_
  rintro e w6 ⟨rfl, hb⟩
  have HP6 := hid (HP5.out.below hb HP5.out.lt)
  have HX6 := hid (HX5.out.below hb HX5.out.lt)
  have HS6 := hid (HS5.out.below hb HS5.out.lt)
  have HZ6 := hid (HZ5.out.below hb HZ5.out.lt)
  have HR6 := hid (HR5.out.low hb)
  have HB6 := hid (HB5.out.trans (hb.mono HB5.out.size))
  have HN6 := hid (HN5.out.below hb HN5.out.lt)
  clear hb HC2 HN5 HP5 HX5 HS5 HZ5 HR5 HB5
  have d0 := HP6.out.cell (k := 0) rfl
  have d1 := HP6.out.cell (k := 1) rfl
  have d2 := HP6.out.cell (k := 2) rfl
  have d3 := HP6.out.cell (k := 3) rfl
  have e0 := HS6.out.cell (k := 0) rfl
  have e1 := HS6.out.cell (k := 1) rfl
  have e2 := HS6.out.cell (k := 2) rfl
  go_wp2_with fail
  clear d0 d1 d2 d3 e0 e1 e2
  refine (HC3.out _ HR6.out).mono ?_
  rintro e w7 ⟨rfl, hb⟩
  have HP7 := hid (HP6.out.below hb HP6.out.lt)
  have HX7 := hid (HX6.out.below hb HX6.out.lt)
  have HS7 := hid (HS6.out.below hb HS6.out.lt)
  have HZ7 := hid (HZ6.out.below hb HZ6.out.lt)
  have HR7 := hid (HR6.out.low hb)
  have HB7 := hid (HB6.out.trans (hb.mono HB6.out.size))
  have HN7 := hid (HN6.out.below hb HN6.out.lt)
  clear hb HC3 HN6 HP6 HX6 HS6 HZ6 HR6 HB6
  have y0 := HZ7.out.cell (k := 0) rfl
  have z0 := HZ7.out.frozen 0
  have y1 := HZ7.out.cell (k := 1) rfl
  have z1 := HZ7.out.frozen 1
  have y2 := HZ7.out.cell (k := 2) rfl
  have z2 := HZ7.out.frozen 2
  go_wp2
  have HZs := hid (((HZ7.out.set 0 (.int .i64 0)).set 1 (.int .i64 0)).set 2 (.int .i64 0))
  have HBs := hid (((HB7.out.setCell (p := ⟨w.heap.size + 1 + 1 + 1, 0, none⟩) (by dsimp only; omega) (.int .i64 0)).setCell (p := ⟨w.heap.size + 1 + 1 + 1, 1, none⟩) (by dsimp only; omega) (.int .i64 0)).setCell (p := ⟨w.heap.size + 1 + 1 + 1, 2, none⟩) (by dsimp only; omega) (.int .i64 0))
  clear y0 y1 y2 z0 z1 z2
  have p0 := HZs.out.cell (k := 0) rfl
  have p1 := HZs.out.cell (k := 1) rfl
  have p2 := HZs.out.cell (k := 2) rfl
  refine bodyPost_ret (v := .tuple #[.int .i64 0, .agg #[.int .i64 0, .int .i64 0, .int .i64 0], .int .i64 2]) (by simp [results, Tryz.results12, go_sem, p0, p1, p2]) rfl ?_
  exact ⟨rfl, HBs.out⟩
set_option maxRecDepth 100000 in
set_option maxHeartbeats 8000000 in
theorem rseq_ynn (r0 r1 r2 lit len off : Int) (A : Nat → Option Addr) (cp : Nat → Nat) (C : Nat → List Int) (w : World) (h : RfAt w A cp C) (hlen : -9223372036854775808 ≤ len ∧ len ≤ 9223372036854775807) (hs : seqOk r0 r1 r2 lit off = true) (a : Int) (ha : numC C 1 lit = some a) (hb : numC C 2 (valF r0 r1 r2 lit off) = none) (hc : lenC C len = none) :
    Calls Tryz.prog 12 #[fourV A cp C, .agg #[.int .i64 r0, .int .i64 r1, .int .i64 r2], .agg #[.int .i64 lit, .int .i64 len, .int .i64 off]] w (RetV w (.tuple #[.int .i64 0, .agg #[.int .i64 0, .int .i64 0, .int .i64 0], .int .i64 2])) := by
  have hbx : Below w.heap.size w ((((w.alloc (.cells #[.slice (A 0) (C 0).length (cp 0), .slice (A 1) (C 1).length (cp 1), .slice (A 2) (C 2).length (cp 2), .slice (A 3) (C 3).length (cp 3)] 30)).alloc (.cells #[.int .i64 r0, .int .i64 r1, .int .i64 r2] 40)).alloc (.cells #[.int .i64 lit, .int .i64 len, .int .i64 off] 42)).alloc (.cells #[.int .i64 0, .int .i64 0, .int .i64 0] 40)) := (((below_new w _).alloc (by simp) _).alloc (by simp; omega) _).alloc (by simp; omega) _
  have HP1 := hid (show Blk ((((w.alloc (.cells #[.slice (A 0) (C 0).length (cp 0), .slice (A 1) (C 1).length (cp 1), .slice (A 2) (C 2).length (cp 2), .slice (A 3) (C 3).length (cp 3)] 30)).alloc (.cells #[.int .i64 r0, .int .i64 r1, .int .i64 r2] 40)).alloc (.cells #[.int .i64 lit, .int .i64 len, .int .i64 off] 42)).alloc (.cells #[.int .i64 0, .int .i64 0, .int .i64 0] 40)) w.heap.size [.slice (A 0) (C 0).length (cp 0), .slice (A 1) (C 1).length (cp 1), .slice (A 2) (C 2).length (cp 2), .slice (A 3) (C 3).length (cp 3)] 30 from (((Blk.newAt rfl).alloc _).alloc _).alloc _)
  have HX1 := hid (show Blk ((((w.alloc (.cells #[.slice (A 0) (C 0).length (cp 0), .slice (A 1) (C 1).length (cp 1), .slice (A 2) (C 2).length (cp 2), .slice (A 3) (C 3).length (cp 3)] 30)).alloc (.cells #[.int .i64 r0, .int .i64 r1, .int .i64 r2] 40)).alloc (.cells #[.int .i64 lit, .int .i64 len, .int .i64 off] 42)).alloc (.cells #[.int .i64 0, .int .i64 0, .int .i64 0] 40)) (w.heap.size + 1) [.int .i64 r0, .int .i64 r1, .int .i64 r2] 40 from ((Blk.newAt (by simp)).alloc _).alloc _)
  have HS1 := hid (show Blk ((((w.alloc (.cells #[.slice (A 0) (C 0).length (cp 0), .slice (A 1) (C 1).length (cp 1), .slice (A 2) (C 2).length (cp 2), .slice (A 3) (C 3).length (cp 3)] 30)).alloc (.cells #[.int .i64 r0, .int .i64 r1, .int .i64 r2] 40)).alloc (.cells #[.int .i64 lit, .int .i64 len, .int .i64 off] 42)).alloc (.cells #[.int .i64 0, .int .i64 0, .int .i64 0] 40)) (w.heap.size + 1 + 1) [.int .i64 lit, .int .i64 len, .int .i64 off] 42 from (Blk.newAt (by simp)).alloc _)
  have HZ1 := hid (show Blk ((((w.alloc (.cells #[.slice (A 0) (C 0).length (cp 0), .slice (A 1) (C 1).length (cp 1), .slice (A 2) (C 2).length (cp 2), .slice (A 3) (C 3).length (cp 3)] 30)).alloc (.cells #[.int .i64 r0, .int .i64 r1, .int .i64 r2] 40)).alloc (.cells #[.int .i64 lit, .int .i64 len, .int .i64 off] 42)).alloc (.cells #[.int .i64 0, .int .i64 0, .int .i64 0] 40)) (w.heap.size + 1 + 1 + 1) [.int .i64 0, .int .i64 0, .int .i64 0] 40 from Blk.newAt (by simp))
  have HR1 := hid (h.low hbx)
  have HB1 := hid hbx
  have c0 := HX1.out.cell (k := 0) rfl
  have c1 := HX1.out.cell (k := 1) rfl
  have c2 := HX1.out.cell (k := 2) rfl
  obtain ⟨hr, hl, hw⟩ := seqOk_true hs
  have HRr := hid (fun W => by have h := rright21_any r0 r1 r2 W; rw [hr] at h; exact h)
  obtain ⟨n0, n1, n2, hn⟩ : ∃ n0 n1 n2, nextF r0 r1 r2 (toldF r0 r1 r2 lit (valF r0 r1 r2 lit off)) = (n0, n1, n2) := ⟨_, _, _, rfl⟩
  have hV := fun W => rvalue_any r0 r1 r2 lit off hr hl hw W
  rw [hn] at hV
  have HVl : Hid (∀ W, Calls Tryz.prog 37 #[.agg #[.int .i64 r0, .int .i64 r1, .int .i64 r2], .int .i64 lit, .int .i64 off] W (RetV W (.tuple #[.int .i64 (valF r0 r1 r2 lit off), .agg #[.int .i64 n0, .int .i64 n1, .int .i64 n2], .int .i64 0]))) := hid hV
  have HC1 : Hid (∀ W, RfAt W A cp C → Calls Tryz.prog 38 #[fourV A cp C, .int .i64 lit] W (RetV W (.tuple #[.int .i64 a, .int .i64 0]))) := hid (fun W hW => by have h := rcount_any A cp C W hW lit; rw [ha] at h; exact h)
  have HC2 : Hid (∀ W, RfAt W A cp C → Calls Tryz.prog 39 #[fourV A cp C, .int .i64 (valF r0 r1 r2 lit off)] W (RetV W (.tuple #[.int .i64 0, .int .i64 2]))) := hid (fun W hW => by have h := roff_any A cp C W hW (valF r0 r1 r2 lit off); rw [hb] at h; exact h)
  have HC3 : Hid (∀ W, RfAt W A cp C → Calls Tryz.prog 40 #[fourV A cp C, .int .i64 len] W (RetV W (.tuple #[.int .i64 0, .int .i64 2]))) := hid (fun W hW => by have h := rlen32_any A cp C W hW len hlen.1 hlen.2; rw [hc] at h; exact h)
  unfold fourV at HC1 HC2 HC3
  have hwo := winOk_true hw
  have hl9 : ¬ lit < 0 := by omega
  have ho1 : ¬ off < 1 := by omega
  have ho2 : ¬ 134217728 < off := by omega
  clear h hbx hs hr hw hV hn hlen ha hb hc
  generalize valF r0 r1 r2 lit off = v at *
  unfold fourV
  go_enter Tryz.func12, Tryz.ntmps12
  go_wp2_with fail
  clear c0 c1 c2
  generalize (((w.alloc (.cells #[.slice (A 0) (C 0).length (cp 0), .slice (A 1) (C 1).length (cp 1), .slice (A 2) (C 2).length (cp 2), .slice (A 3) (C 3).length (cp 3)] 30)).alloc (.cells #[.int .i64 r0, .int .i64 r1, .int .i64 r2] 40)).alloc (.cells #[.int .i64 lit, .int .i64 len, .int .i64 off] 42)).alloc (.cells #[.int .i64 0, .int .i64 0, .int .i64 0] 40) = w1 at *
  refine (HRr.out _).mono ?_
  rintro e w2 ⟨rfl, hb⟩
  have HP2 := hid (HP1.out.below hb HP1.out.lt)
  have HX2 := hid (HX1.out.below hb HX1.out.lt)
  have HS2 := hid (HS1.out.below hb HS1.out.lt)
  have HZ2 := hid (HZ1.out.below hb HZ1.out.lt)
  have HR2 := hid (HR1.out.low hb)
  have HB2 := hid (HB1.out.trans (hb.mono HB1.out.size))
  clear hb HRr HP1 HX1 HS1 HZ1 HR1 HB1
  have c0 := HX2.out.cell (k := 0) rfl
  have c1 := HX2.out.cell (k := 1) rfl
  have c2 := HX2.out.cell (k := 2) rfl
  have e0 := HS2.out.cell (k := 0) rfl
  have e1 := HS2.out.cell (k := 1) rfl
  have e2 := HS2.out.cell (k := 2) rfl
  go_wp2_with fail
  clear c0 c1 c2 e0 e1 e2
  refine (HVl.out _).mono ?_
  rintro e w3 ⟨rfl, hb⟩
  have HP3 := hid (HP2.out.below hb HP2.out.lt)
  have HX3 := hid (HX2.out.below hb HX2.out.lt)
  have HS3 := hid (HS2.out.below hb HS2.out.lt)
  have HZ3 := hid (HZ2.out.below hb HZ2.out.lt)
  have HR3 := hid (HR2.out.low hb)
  have HB3 := hid (HB2.out.trans (hb.mono HB2.out.size))
  clear hb HVl HP2 HX2 HS2 HZ2 HR2 HB2
  go_upto_region 4 with fail
  have hb := below_new w3 (.cells #[.int .i64 n0, .int .i64 n1, .int .i64 n2] 40)
  have HN4 := hid (Blk.new w3 [.int .i64 n0, .int .i64 n1, .int .i64 n2] 40)
  have HP4 := hid (HP3.out.below hb HP3.out.lt)
  have HX4 := hid (HX3.out.below hb HX3.out.lt)
  have HS4 := hid (HS3.out.below hb HS3.out.lt)
  have HZ4 := hid (HZ3.out.below hb HZ3.out.lt)
  have HR4 := hid (HR3.out.low hb)
  have HB4 := hid (HB3.out.trans (hb.mono HB3.out.size))
  have hq6 : w.heap.size + 1 + 1 + 1 < w3.heap.size := HZ3.out.lt
  clear hb HP3 HX3 HS3 HZ3 HR3 HB3
  generalize w3.alloc (.cells #[.int .i64 n0, .int .i64 n1, .int .i64 n2] 40) = w4 at *
  generalize w3.heap.size = q6 at *
  have d0 := HP4.out.cell (k := 0) rfl
  have d1 := HP4.out.cell (k := 1) rfl
  have d2 := HP4.out.cell (k := 2) rfl
  have d3 := HP4.out.cell (k := 3) rfl
  have e0 := HS4.out.cell (k := 0) rfl
  have e1 := HS4.out.cell (k := 1) rfl
  have e2 := HS4.out.cell (k := 2) rfl
  go_wp2_with fail
  clear d0 d1 d2 d3 e0 e1 e2
  refine (HC1.out _ HR4.out).mono ?_
  rintro e w5 ⟨rfl, hb⟩
  have HP5 := hid (HP4.out.below hb HP4.out.lt)
  have HX5 := hid (HX4.out.below hb HX4.out.lt)
  have HS5 := hid (HS4.out.below hb HS4.out.lt)
  have HZ5 := hid (HZ4.out.below hb HZ4.out.lt)
  have HR5 := hid (HR4.out.low hb)
  have HB5 := hid (HB4.out.trans (hb.mono HB4.out.size))
  have HN5 := hid (HN4.out.below hb HN4.out.lt)
  clear hb HC1 HN4 HP4 HX4 HS4 HZ4 HR4 HB4
  have d0 := HP5.out.cell (k := 0) rfl
  have d1 := HP5.out.cell (k := 1) rfl
  have d2 := HP5.out.cell (k := 2) rfl
  have d3 := HP5.out.cell (k := 3) rfl
  have e0 := HS5.out.cell (k := 0) rfl
  have e1 := HS5.out.cell (k := 1) rfl
  have e2 := HS5.out.cell (k := 2) rfl
  go_wp2_with fail
  clear d0 d1 d2 d3 e0 e1 e2
  refine (HC2.out _ HR5.out).mono ?_
  rintro e w6 ⟨rfl, hb⟩
  have HP6 := hid (HP5.out.below hb HP5.out.lt)
  have HX6 := hid (HX5.out.below hb HX5.out.lt)
  have HS6 := hid (HS5.out.below hb HS5.out.lt)
  have HZ6 := hid (HZ5.out.below hb HZ5.out.lt)
  have HR6 := hid (HR5.out.low hb)
  have HB6 := hid (HB5.out.trans (hb.mono HB5.out.size))
  have HN6 := hid (HN5.out.below hb HN5.out.lt)
  clear hb HC2 HN5 HP5 HX5 HS5 HZ5 HR5 HB5
  have d0 := HP6.out.cell (k := 0) rfl
  have d1 := HP6.out.cell (k := 1) rfl
  have d2 := HP6.out.cell (k := 2) rfl
  have d3 := HP6.out.cell (k := 3) rfl
  have e0 := HS6.out.cell (k := 0) rfl
  have e1 := HS6.out.cell (k := 1) rfl
  have e2 := HS6.out.cell (k := 2) rfl
  go_wp2_with fail
  clear d0 d1 d2 d3 e0 e1 e2
  refine (HC3.out _ HR6.out).mono ?_
  rintro e w7 ⟨rfl, hb⟩
  have HP7 := hid (HP6.out.below hb HP6.out.lt)
  have HX7 := hid (HX6.out.below hb HX6.out.lt)
  have HS7 := hid (HS6.out.below hb HS6.out.lt)
  have HZ7 := hid (HZ6.out.below hb HZ6.out.lt)
  have HR7 := hid (HR6.out.low hb)
  have HB7 := hid (HB6.out.trans (hb.mono HB6.out.size))
  have HN7 := hid (HN6.out.below hb HN6.out.lt)
  clear hb HC3 HN6 HP6 HX6 HS6 HZ6 HR6 HB6
  have y0 := HZ7.out.cell (k := 0) rfl
  have z0 := HZ7.out.frozen 0
  have y1 := HZ7.out.cell (k := 1) rfl
  have z1 := HZ7.out.frozen 1
  have y2 := HZ7.out.cell (k := 2) rfl
  have z2 := HZ7.out.frozen 2
  go_wp2
  have HZs := hid (((HZ7.out.set 0 (.int .i64 0)).set 1 (.int .i64 0)).set 2 (.int .i64 0))
  have HBs := hid (((HB7.out.setCell (p := ⟨w.heap.size + 1 + 1 + 1, 0, none⟩) (by dsimp only; omega) (.int .i64 0)).setCell (p := ⟨w.heap.size + 1 + 1 + 1, 1, none⟩) (by dsimp only; omega) (.int .i64 0)).setCell (p := ⟨w.heap.size + 1 + 1 + 1, 2, none⟩) (by dsimp only; omega) (.int .i64 0))
  clear y0 y1 y2 z0 z1 z2
  have p0 := HZs.out.cell (k := 0) rfl
  have p1 := HZs.out.cell (k := 1) rfl
  have p2 := HZs.out.cell (k := 2) rfl
  refine bodyPost_ret (v := .tuple #[.int .i64 0, .agg #[.int .i64 0, .int .i64 0, .int .i64 0], .int .i64 2]) (by simp [results, Tryz.results12, go_sem, p0, p1, p2]) rfl ?_
  exact ⟨rfl, HBs.out⟩
set_option maxRecDepth 100000 in
set_option maxHeartbeats 8000000 in
theorem rseq_nyy (r0 r1 r2 lit len off : Int) (A : Nat → Option Addr) (cp : Nat → Nat) (C : Nat → List Int) (w : World) (h : RfAt w A cp C) (hlen : -9223372036854775808 ≤ len ∧ len ≤ 9223372036854775807) (hs : seqOk r0 r1 r2 lit off = true) (ha : numC C 1 lit = none) (b : Int) (hb : numC C 2 (valF r0 r1 r2 lit off) = some b) (c : Int) (hc : lenC C len = some c) :
    Calls Tryz.prog 12 #[fourV A cp C, .agg #[.int .i64 r0, .int .i64 r1, .int .i64 r2], .agg #[.int .i64 lit, .int .i64 len, .int .i64 off]] w (RetV w (.tuple #[.int .i64 0, .agg #[.int .i64 0, .int .i64 0, .int .i64 0], .int .i64 2])) := by
  have hbx : Below w.heap.size w ((((w.alloc (.cells #[.slice (A 0) (C 0).length (cp 0), .slice (A 1) (C 1).length (cp 1), .slice (A 2) (C 2).length (cp 2), .slice (A 3) (C 3).length (cp 3)] 30)).alloc (.cells #[.int .i64 r0, .int .i64 r1, .int .i64 r2] 40)).alloc (.cells #[.int .i64 lit, .int .i64 len, .int .i64 off] 42)).alloc (.cells #[.int .i64 0, .int .i64 0, .int .i64 0] 40)) := (((below_new w _).alloc (by simp) _).alloc (by simp; omega) _).alloc (by simp; omega) _
  have HP1 := hid (show Blk ((((w.alloc (.cells #[.slice (A 0) (C 0).length (cp 0), .slice (A 1) (C 1).length (cp 1), .slice (A 2) (C 2).length (cp 2), .slice (A 3) (C 3).length (cp 3)] 30)).alloc (.cells #[.int .i64 r0, .int .i64 r1, .int .i64 r2] 40)).alloc (.cells #[.int .i64 lit, .int .i64 len, .int .i64 off] 42)).alloc (.cells #[.int .i64 0, .int .i64 0, .int .i64 0] 40)) w.heap.size [.slice (A 0) (C 0).length (cp 0), .slice (A 1) (C 1).length (cp 1), .slice (A 2) (C 2).length (cp 2), .slice (A 3) (C 3).length (cp 3)] 30 from (((Blk.newAt rfl).alloc _).alloc _).alloc _)
  have HX1 := hid (show Blk ((((w.alloc (.cells #[.slice (A 0) (C 0).length (cp 0), .slice (A 1) (C 1).length (cp 1), .slice (A 2) (C 2).length (cp 2), .slice (A 3) (C 3).length (cp 3)] 30)).alloc (.cells #[.int .i64 r0, .int .i64 r1, .int .i64 r2] 40)).alloc (.cells #[.int .i64 lit, .int .i64 len, .int .i64 off] 42)).alloc (.cells #[.int .i64 0, .int .i64 0, .int .i64 0] 40)) (w.heap.size + 1) [.int .i64 r0, .int .i64 r1, .int .i64 r2] 40 from ((Blk.newAt (by simp)).alloc _).alloc _)
  have HS1 := hid (show Blk ((((w.alloc (.cells #[.slice (A 0) (C 0).length (cp 0), .slice (A 1) (C 1).length (cp 1), .slice (A 2) (C 2).length (cp 2), .slice (A 3) (C 3).length (cp 3)] 30)).alloc (.cells #[.int .i64 r0, .int .i64 r1, .int .i64 r2] 40)).alloc (.cells #[.int .i64 lit, .int .i64 len, .int .i64 off] 42)).alloc (.cells #[.int .i64 0, .int .i64 0, .int .i64 0] 40)) (w.heap.size + 1 + 1) [.int .i64 lit, .int .i64 len, .int .i64 off] 42 from (Blk.newAt (by simp)).alloc _)
  have HZ1 := hid (show Blk ((((w.alloc (.cells #[.slice (A 0) (C 0).length (cp 0), .slice (A 1) (C 1).length (cp 1), .slice (A 2) (C 2).length (cp 2), .slice (A 3) (C 3).length (cp 3)] 30)).alloc (.cells #[.int .i64 r0, .int .i64 r1, .int .i64 r2] 40)).alloc (.cells #[.int .i64 lit, .int .i64 len, .int .i64 off] 42)).alloc (.cells #[.int .i64 0, .int .i64 0, .int .i64 0] 40)) (w.heap.size + 1 + 1 + 1) [.int .i64 0, .int .i64 0, .int .i64 0] 40 from Blk.newAt (by simp))
  have HR1 := hid (h.low hbx)
  have HB1 := hid hbx
  have c0 := HX1.out.cell (k := 0) rfl
  have c1 := HX1.out.cell (k := 1) rfl
  have c2 := HX1.out.cell (k := 2) rfl
  obtain ⟨hr, hl, hw⟩ := seqOk_true hs
  have HRr := hid (fun W => by have h := rright21_any r0 r1 r2 W; rw [hr] at h; exact h)
  obtain ⟨n0, n1, n2, hn⟩ : ∃ n0 n1 n2, nextF r0 r1 r2 (toldF r0 r1 r2 lit (valF r0 r1 r2 lit off)) = (n0, n1, n2) := ⟨_, _, _, rfl⟩
  have hV := fun W => rvalue_any r0 r1 r2 lit off hr hl hw W
  rw [hn] at hV
  have HVl : Hid (∀ W, Calls Tryz.prog 37 #[.agg #[.int .i64 r0, .int .i64 r1, .int .i64 r2], .int .i64 lit, .int .i64 off] W (RetV W (.tuple #[.int .i64 (valF r0 r1 r2 lit off), .agg #[.int .i64 n0, .int .i64 n1, .int .i64 n2], .int .i64 0]))) := hid hV
  have HC1 : Hid (∀ W, RfAt W A cp C → Calls Tryz.prog 38 #[fourV A cp C, .int .i64 lit] W (RetV W (.tuple #[.int .i64 0, .int .i64 2]))) := hid (fun W hW => by have h := rcount_any A cp C W hW lit; rw [ha] at h; exact h)
  have HC2 : Hid (∀ W, RfAt W A cp C → Calls Tryz.prog 39 #[fourV A cp C, .int .i64 (valF r0 r1 r2 lit off)] W (RetV W (.tuple #[.int .i64 b, .int .i64 0]))) := hid (fun W hW => by have h := roff_any A cp C W hW (valF r0 r1 r2 lit off); rw [hb] at h; exact h)
  have HC3 : Hid (∀ W, RfAt W A cp C → Calls Tryz.prog 40 #[fourV A cp C, .int .i64 len] W (RetV W (.tuple #[.int .i64 c, .int .i64 0]))) := hid (fun W hW => by have h := rlen32_any A cp C W hW len hlen.1 hlen.2; rw [hc] at h; exact h)
  unfold fourV at HC1 HC2 HC3
  have hwo := winOk_true hw
  have hl9 : ¬ lit < 0 := by omega
  have ho1 : ¬ off < 1 := by omega
  have ho2 : ¬ 134217728 < off := by omega
  clear h hbx hs hr hw hV hn hlen ha hb hc
  generalize valF r0 r1 r2 lit off = v at *
  unfold fourV
  go_enter Tryz.func12, Tryz.ntmps12
  go_wp2_with fail
  clear c0 c1 c2
  generalize (((w.alloc (.cells #[.slice (A 0) (C 0).length (cp 0), .slice (A 1) (C 1).length (cp 1), .slice (A 2) (C 2).length (cp 2), .slice (A 3) (C 3).length (cp 3)] 30)).alloc (.cells #[.int .i64 r0, .int .i64 r1, .int .i64 r2] 40)).alloc (.cells #[.int .i64 lit, .int .i64 len, .int .i64 off] 42)).alloc (.cells #[.int .i64 0, .int .i64 0, .int .i64 0] 40) = w1 at *
  refine (HRr.out _).mono ?_
  rintro e w2 ⟨rfl, hb⟩
  have HP2 := hid (HP1.out.below hb HP1.out.lt)
  have HX2 := hid (HX1.out.below hb HX1.out.lt)
  have HS2 := hid (HS1.out.below hb HS1.out.lt)
  have HZ2 := hid (HZ1.out.below hb HZ1.out.lt)
  have HR2 := hid (HR1.out.low hb)
  have HB2 := hid (HB1.out.trans (hb.mono HB1.out.size))
  clear hb HRr HP1 HX1 HS1 HZ1 HR1 HB1
  have c0 := HX2.out.cell (k := 0) rfl
  have c1 := HX2.out.cell (k := 1) rfl
  have c2 := HX2.out.cell (k := 2) rfl
  have e0 := HS2.out.cell (k := 0) rfl
  have e1 := HS2.out.cell (k := 1) rfl
  have e2 := HS2.out.cell (k := 2) rfl
  go_wp2_with fail
  clear c0 c1 c2 e0 e1 e2
  refine (HVl.out _).mono ?_
  rintro e w3 ⟨rfl, hb⟩
  have HP3 := hid (HP2.out.below hb HP2.out.lt)
  have HX3 := hid (HX2.out.below hb HX2.out.lt)
  have HS3 := hid (HS2.out.below hb HS2.out.lt)
  have HZ3 := hid (HZ2.out.below hb HZ2.out.lt)
  have HR3 := hid (HR2.out.low hb)
  have HB3 := hid (HB2.out.trans (hb.mono HB2.out.size))
  clear hb HVl HP2 HX2 HS2 HZ2 HR2 HB2
  go_upto_region 4 with fail
  have hb := below_new w3 (.cells #[.int .i64 n0, .int .i64 n1, .int .i64 n2] 40)
  have HN4 := hid (Blk.new w3 [.int .i64 n0, .int .i64 n1, .int .i64 n2] 40)
  have HP4 := hid (HP3.out.below hb HP3.out.lt)
  have HX4 := hid (HX3.out.below hb HX3.out.lt)
  have HS4 := hid (HS3.out.below hb HS3.out.lt)
  have HZ4 := hid (HZ3.out.below hb HZ3.out.lt)
  have HR4 := hid (HR3.out.low hb)
  have HB4 := hid (HB3.out.trans (hb.mono HB3.out.size))
  have hq6 : w.heap.size + 1 + 1 + 1 < w3.heap.size := HZ3.out.lt
  clear hb HP3 HX3 HS3 HZ3 HR3 HB3
  generalize w3.alloc (.cells #[.int .i64 n0, .int .i64 n1, .int .i64 n2] 40) = w4 at *
  generalize w3.heap.size = q6 at *
  have d0 := HP4.out.cell (k := 0) rfl
  have d1 := HP4.out.cell (k := 1) rfl
  have d2 := HP4.out.cell (k := 2) rfl
  have d3 := HP4.out.cell (k := 3) rfl
  have e0 := HS4.out.cell (k := 0) rfl
  have e1 := HS4.out.cell (k := 1) rfl
  have e2 := HS4.out.cell (k := 2) rfl
  go_wp2_with fail
  clear d0 d1 d2 d3 e0 e1 e2
  refine (HC1.out _ HR4.out).mono ?_
  rintro e w5 ⟨rfl, hb⟩
  have HP5 := hid (HP4.out.below hb HP4.out.lt)
  have HX5 := hid (HX4.out.below hb HX4.out.lt)
  have HS5 := hid (HS4.out.below hb HS4.out.lt)
  have HZ5 := hid (HZ4.out.below hb HZ4.out.lt)
  have HR5 := hid (HR4.out.low hb)
  have HB5 := hid (HB4.out.trans (hb.mono HB4.out.size))
  have HN5 := hid (HN4.out.below hb HN4.out.lt)
  clear hb HC1 HN4 HP4 HX4 HS4 HZ4 HR4 HB4
  have d0 := HP5.out.cell (k := 0) rfl
  have d1 := HP5.out.cell (k := 1) rfl
  have d2 := HP5.out.cell (k := 2) rfl
  have d3 := HP5.out.cell (k := 3) rfl
  have e0 := HS5.out.cell (k := 0) rfl
  have e1 := HS5.out.cell (k := 1) rfl
  have e2 := HS5.out.cell (k := 2) rfl
  go_wp2_with fail
  clear d0 d1 d2 d3 e0 e1 e2
  refine (HC2.out _ HR5.out).mono ?_
  rintro e w6 ⟨rfl, hb⟩
  have HP6 := hid (HP5.out.below hb HP5.out.lt)
  have HX6 := hid (HX5.out.below hb HX5.out.lt)
  have HS6 := hid (HS5.out.below hb HS5.out.lt)
  have HZ6 := hid (HZ5.out.below hb HZ5.out.lt)
  have HR6 := hid (HR5.out.low hb)
  have HB6 := hid (HB5.out.trans (hb.mono HB5.out.size))
  have HN6 := hid (HN5.out.below hb HN5.out.lt)
  clear hb HC2 HN5 HP5 HX5 HS5 HZ5 HR5 HB5
  have d0 := HP6.out.cell (k := 0) rfl
  have d1 := HP6.out.cell (k := 1) rfl
  have d2 := HP6.out.cell (k := 2) rfl
  have d3 := HP6.out.cell (k := 3) rfl
  have e0 := HS6.out.cell (k := 0) rfl
  have e1 := HS6.out.cell (k := 1) rfl
  have e2 := HS6.out.cell (k := 2) rfl
  go_wp2_with fail
  clear d0 d1 d2 d3 e0 e1 e2
  refine (HC3.out _ HR6.out).mono ?_
  rintro e w7 ⟨rfl, hb⟩
  have HP7 := hid (HP6.out.below hb HP6.out.lt)
  have HX7 := hid (HX6.out.below hb HX6.out.lt)
  have HS7 := hid (HS6.out.below hb HS6.out.lt)
  have HZ7 := hid (HZ6.out.below hb HZ6.out.lt)
  have HR7 := hid (HR6.out.low hb)
  have HB7 := hid (HB6.out.trans (hb.mono HB6.out.size))
  have HN7 := hid (HN6.out.below hb HN6.out.lt)
  clear hb HC3 HN6 HP6 HX6 HS6 HZ6 HR6 HB6
  have y0 := HZ7.out.cell (k := 0) rfl
  have z0 := HZ7.out.frozen 0
  have y1 := HZ7.out.cell (k := 1) rfl
  have z1 := HZ7.out.frozen 1
  have y2 := HZ7.out.cell (k := 2) rfl
  have z2 := HZ7.out.frozen 2
  go_wp2
  have HZs := hid (((HZ7.out.set 0 (.int .i64 0)).set 1 (.int .i64 0)).set 2 (.int .i64 0))
  have HBs := hid (((HB7.out.setCell (p := ⟨w.heap.size + 1 + 1 + 1, 0, none⟩) (by dsimp only; omega) (.int .i64 0)).setCell (p := ⟨w.heap.size + 1 + 1 + 1, 1, none⟩) (by dsimp only; omega) (.int .i64 0)).setCell (p := ⟨w.heap.size + 1 + 1 + 1, 2, none⟩) (by dsimp only; omega) (.int .i64 0))
  clear y0 y1 y2 z0 z1 z2
  have p0 := HZs.out.cell (k := 0) rfl
  have p1 := HZs.out.cell (k := 1) rfl
  have p2 := HZs.out.cell (k := 2) rfl
  refine bodyPost_ret (v := .tuple #[.int .i64 0, .agg #[.int .i64 0, .int .i64 0, .int .i64 0], .int .i64 2]) (by simp [results, Tryz.results12, go_sem, p0, p1, p2]) rfl ?_
  exact ⟨rfl, HBs.out⟩
set_option maxRecDepth 100000 in
set_option maxHeartbeats 8000000 in
theorem rseq_nyn (r0 r1 r2 lit len off : Int) (A : Nat → Option Addr) (cp : Nat → Nat) (C : Nat → List Int) (w : World) (h : RfAt w A cp C) (hlen : -9223372036854775808 ≤ len ∧ len ≤ 9223372036854775807) (hs : seqOk r0 r1 r2 lit off = true) (ha : numC C 1 lit = none) (b : Int) (hb : numC C 2 (valF r0 r1 r2 lit off) = some b) (hc : lenC C len = none) :
    Calls Tryz.prog 12 #[fourV A cp C, .agg #[.int .i64 r0, .int .i64 r1, .int .i64 r2], .agg #[.int .i64 lit, .int .i64 len, .int .i64 off]] w (RetV w (.tuple #[.int .i64 0, .agg #[.int .i64 0, .int .i64 0, .int .i64 0], .int .i64 2])) := by
  have hbx : Below w.heap.size w ((((w.alloc (.cells #[.slice (A 0) (C 0).length (cp 0), .slice (A 1) (C 1).length (cp 1), .slice (A 2) (C 2).length (cp 2), .slice (A 3) (C 3).length (cp 3)] 30)).alloc (.cells #[.int .i64 r0, .int .i64 r1, .int .i64 r2] 40)).alloc (.cells #[.int .i64 lit, .int .i64 len, .int .i64 off] 42)).alloc (.cells #[.int .i64 0, .int .i64 0, .int .i64 0] 40)) := (((below_new w _).alloc (by simp) _).alloc (by simp; omega) _).alloc (by simp; omega) _
  have HP1 := hid (show Blk ((((w.alloc (.cells #[.slice (A 0) (C 0).length (cp 0), .slice (A 1) (C 1).length (cp 1), .slice (A 2) (C 2).length (cp 2), .slice (A 3) (C 3).length (cp 3)] 30)).alloc (.cells #[.int .i64 r0, .int .i64 r1, .int .i64 r2] 40)).alloc (.cells #[.int .i64 lit, .int .i64 len, .int .i64 off] 42)).alloc (.cells #[.int .i64 0, .int .i64 0, .int .i64 0] 40)) w.heap.size [.slice (A 0) (C 0).length (cp 0), .slice (A 1) (C 1).length (cp 1), .slice (A 2) (C 2).length (cp 2), .slice (A 3) (C 3).length (cp 3)] 30 from (((Blk.newAt rfl).alloc _).alloc _).alloc _)
  have HX1 := hid (show Blk ((((w.alloc (.cells #[.slice (A 0) (C 0).length (cp 0), .slice (A 1) (C 1).length (cp 1), .slice (A 2) (C 2).length (cp 2), .slice (A 3) (C 3).length (cp 3)] 30)).alloc (.cells #[.int .i64 r0, .int .i64 r1, .int .i64 r2] 40)).alloc (.cells #[.int .i64 lit, .int .i64 len, .int .i64 off] 42)).alloc (.cells #[.int .i64 0, .int .i64 0, .int .i64 0] 40)) (w.heap.size + 1) [.int .i64 r0, .int .i64 r1, .int .i64 r2] 40 from ((Blk.newAt (by simp)).alloc _).alloc _)
  have HS1 := hid (show Blk ((((w.alloc (.cells #[.slice (A 0) (C 0).length (cp 0), .slice (A 1) (C 1).length (cp 1), .slice (A 2) (C 2).length (cp 2), .slice (A 3) (C 3).length (cp 3)] 30)).alloc (.cells #[.int .i64 r0, .int .i64 r1, .int .i64 r2] 40)).alloc (.cells #[.int .i64 lit, .int .i64 len, .int .i64 off] 42)).alloc (.cells #[.int .i64 0, .int .i64 0, .int .i64 0] 40)) (w.heap.size + 1 + 1) [.int .i64 lit, .int .i64 len, .int .i64 off] 42 from (Blk.newAt (by simp)).alloc _)
  have HZ1 := hid (show Blk ((((w.alloc (.cells #[.slice (A 0) (C 0).length (cp 0), .slice (A 1) (C 1).length (cp 1), .slice (A 2) (C 2).length (cp 2), .slice (A 3) (C 3).length (cp 3)] 30)).alloc (.cells #[.int .i64 r0, .int .i64 r1, .int .i64 r2] 40)).alloc (.cells #[.int .i64 lit, .int .i64 len, .int .i64 off] 42)).alloc (.cells #[.int .i64 0, .int .i64 0, .int .i64 0] 40)) (w.heap.size + 1 + 1 + 1) [.int .i64 0, .int .i64 0, .int .i64 0] 40 from Blk.newAt (by simp))
  have HR1 := hid (h.low hbx)
  have HB1 := hid hbx
  have c0 := HX1.out.cell (k := 0) rfl
  have c1 := HX1.out.cell (k := 1) rfl
  have c2 := HX1.out.cell (k := 2) rfl
  obtain ⟨hr, hl, hw⟩ := seqOk_true hs
  have HRr := hid (fun W => by have h := rright21_any r0 r1 r2 W; rw [hr] at h; exact h)
  obtain ⟨n0, n1, n2, hn⟩ : ∃ n0 n1 n2, nextF r0 r1 r2 (toldF r0 r1 r2 lit (valF r0 r1 r2 lit off)) = (n0, n1, n2) := ⟨_, _, _, rfl⟩
  have hV := fun W => rvalue_any r0 r1 r2 lit off hr hl hw W
  rw [hn] at hV
  have HVl : Hid (∀ W, Calls Tryz.prog 37 #[.agg #[.int .i64 r0, .int .i64 r1, .int .i64 r2], .int .i64 lit, .int .i64 off] W (RetV W (.tuple #[.int .i64 (valF r0 r1 r2 lit off), .agg #[.int .i64 n0, .int .i64 n1, .int .i64 n2], .int .i64 0]))) := hid hV
  have HC1 : Hid (∀ W, RfAt W A cp C → Calls Tryz.prog 38 #[fourV A cp C, .int .i64 lit] W (RetV W (.tuple #[.int .i64 0, .int .i64 2]))) := hid (fun W hW => by have h := rcount_any A cp C W hW lit; rw [ha] at h; exact h)
  have HC2 : Hid (∀ W, RfAt W A cp C → Calls Tryz.prog 39 #[fourV A cp C, .int .i64 (valF r0 r1 r2 lit off)] W (RetV W (.tuple #[.int .i64 b, .int .i64 0]))) := hid (fun W hW => by have h := roff_any A cp C W hW (valF r0 r1 r2 lit off); rw [hb] at h; exact h)
  have HC3 : Hid (∀ W, RfAt W A cp C → Calls Tryz.prog 40 #[fourV A cp C, .int .i64 len] W (RetV W (.tuple #[.int .i64 0, .int .i64 2]))) := hid (fun W hW => by have h := rlen32_any A cp C W hW len hlen.1 hlen.2; rw [hc] at h; exact h)
  unfold fourV at HC1 HC2 HC3
  have hwo := winOk_true hw
  have hl9 : ¬ lit < 0 := by omega
  have ho1 : ¬ off < 1 := by omega
  have ho2 : ¬ 134217728 < off := by omega
  clear h hbx hs hr hw hV hn hlen ha hb hc
  generalize valF r0 r1 r2 lit off = v at *
  unfold fourV
  go_enter Tryz.func12, Tryz.ntmps12
  go_wp2_with fail
  clear c0 c1 c2
  generalize (((w.alloc (.cells #[.slice (A 0) (C 0).length (cp 0), .slice (A 1) (C 1).length (cp 1), .slice (A 2) (C 2).length (cp 2), .slice (A 3) (C 3).length (cp 3)] 30)).alloc (.cells #[.int .i64 r0, .int .i64 r1, .int .i64 r2] 40)).alloc (.cells #[.int .i64 lit, .int .i64 len, .int .i64 off] 42)).alloc (.cells #[.int .i64 0, .int .i64 0, .int .i64 0] 40) = w1 at *
  refine (HRr.out _).mono ?_
  rintro e w2 ⟨rfl, hb⟩
  have HP2 := hid (HP1.out.below hb HP1.out.lt)
  have HX2 := hid (HX1.out.below hb HX1.out.lt)
  have HS2 := hid (HS1.out.below hb HS1.out.lt)
  have HZ2 := hid (HZ1.out.below hb HZ1.out.lt)
  have HR2 := hid (HR1.out.low hb)
  have HB2 := hid (HB1.out.trans (hb.mono HB1.out.size))
  clear hb HRr HP1 HX1 HS1 HZ1 HR1 HB1
  have c0 := HX2.out.cell (k := 0) rfl
  have c1 := HX2.out.cell (k := 1) rfl
  have c2 := HX2.out.cell (k := 2) rfl
  have e0 := HS2.out.cell (k := 0) rfl
  have e1 := HS2.out.cell (k := 1) rfl
  have e2 := HS2.out.cell (k := 2) rfl
  go_wp2_with fail
  clear c0 c1 c2 e0 e1 e2
  refine (HVl.out _).mono ?_
  rintro e w3 ⟨rfl, hb⟩
  have HP3 := hid (HP2.out.below hb HP2.out.lt)
  have HX3 := hid (HX2.out.below hb HX2.out.lt)
  have HS3 := hid (HS2.out.below hb HS2.out.lt)
  have HZ3 := hid (HZ2.out.below hb HZ2.out.lt)
  have HR3 := hid (HR2.out.low hb)
  have HB3 := hid (HB2.out.trans (hb.mono HB2.out.size))
  clear hb HVl HP2 HX2 HS2 HZ2 HR2 HB2
  go_upto_region 4 with fail
  have hb := below_new w3 (.cells #[.int .i64 n0, .int .i64 n1, .int .i64 n2] 40)
  have HN4 := hid (Blk.new w3 [.int .i64 n0, .int .i64 n1, .int .i64 n2] 40)
  have HP4 := hid (HP3.out.below hb HP3.out.lt)
  have HX4 := hid (HX3.out.below hb HX3.out.lt)
  have HS4 := hid (HS3.out.below hb HS3.out.lt)
  have HZ4 := hid (HZ3.out.below hb HZ3.out.lt)
  have HR4 := hid (HR3.out.low hb)
  have HB4 := hid (HB3.out.trans (hb.mono HB3.out.size))
  have hq6 : w.heap.size + 1 + 1 + 1 < w3.heap.size := HZ3.out.lt
  clear hb HP3 HX3 HS3 HZ3 HR3 HB3
  generalize w3.alloc (.cells #[.int .i64 n0, .int .i64 n1, .int .i64 n2] 40) = w4 at *
  generalize w3.heap.size = q6 at *
  have d0 := HP4.out.cell (k := 0) rfl
  have d1 := HP4.out.cell (k := 1) rfl
  have d2 := HP4.out.cell (k := 2) rfl
  have d3 := HP4.out.cell (k := 3) rfl
  have e0 := HS4.out.cell (k := 0) rfl
  have e1 := HS4.out.cell (k := 1) rfl
  have e2 := HS4.out.cell (k := 2) rfl
  go_wp2_with fail
  clear d0 d1 d2 d3 e0 e1 e2
  refine (HC1.out _ HR4.out).mono ?_
  rintro e w5 ⟨rfl, hb⟩
  have HP5 := hid (HP4.out.below hb HP4.out.lt)
  have HX5 := hid (HX4.out.below hb HX4.out.lt)
  have HS5 := hid (HS4.out.below hb HS4.out.lt)
  have HZ5 := hid (HZ4.out.below hb HZ4.out.lt)
  have HR5 := hid (HR4.out.low hb)
  have HB5 := hid (HB4.out.trans (hb.mono HB4.out.size))
  have HN5 := hid (HN4.out.below hb HN4.out.lt)
  clear hb HC1 HN4 HP4 HX4 HS4 HZ4 HR4 HB4
  have d0 := HP5.out.cell (k := 0) rfl
  have d1 := HP5.out.cell (k := 1) rfl
  have d2 := HP5.out.cell (k := 2) rfl
  have d3 := HP5.out.cell (k := 3) rfl
  have e0 := HS5.out.cell (k := 0) rfl
  have e1 := HS5.out.cell (k := 1) rfl
  have e2 := HS5.out.cell (k := 2) rfl
  go_wp2_with fail
  clear d0 d1 d2 d3 e0 e1 e2
  refine (HC2.out _ HR5.out).mono ?_
  rintro e w6 ⟨rfl, hb⟩
  have HP6 := hid (HP5.out.below hb HP5.out.lt)
  have HX6 := hid (HX5.out.below hb HX5.out.lt)
  have HS6 := hid (HS5.out.below hb HS5.out.lt)
  have HZ6 := hid (HZ5.out.below hb HZ5.out.lt)
  have HR6 := hid (HR5.out.low hb)
  have HB6 := hid (HB5.out.trans (hb.mono HB5.out.size))
  have HN6 := hid (HN5.out.below hb HN5.out.lt)
  clear hb HC2 HN5 HP5 HX5 HS5 HZ5 HR5 HB5
  have d0 := HP6.out.cell (k := 0) rfl
  have d1 := HP6.out.cell (k := 1) rfl
  have d2 := HP6.out.cell (k := 2) rfl
  have d3 := HP6.out.cell (k := 3) rfl
  have e0 := HS6.out.cell (k := 0) rfl
  have e1 := HS6.out.cell (k := 1) rfl
  have e2 := HS6.out.cell (k := 2) rfl
  go_wp2_with fail
  clear d0 d1 d2 d3 e0 e1 e2
  refine (HC3.out _ HR6.out).mono ?_
  rintro e w7 ⟨rfl, hb⟩
  have HP7 := hid (HP6.out.below hb HP6.out.lt)
  have HX7 := hid (HX6.out.below hb HX6.out.lt)
  have HS7 := hid (HS6.out.below hb HS6.out.lt)
  have HZ7 := hid (HZ6.out.below hb HZ6.out.lt)
  have HR7 := hid (HR6.out.low hb)
  have HB7 := hid (HB6.out.trans (hb.mono HB6.out.size))
  have HN7 := hid (HN6.out.below hb HN6.out.lt)
  clear hb HC3 HN6 HP6 HX6 HS6 HZ6 HR6 HB6
  have y0 := HZ7.out.cell (k := 0) rfl
  have z0 := HZ7.out.frozen 0
  have y1 := HZ7.out.cell (k := 1) rfl
  have z1 := HZ7.out.frozen 1
  have y2 := HZ7.out.cell (k := 2) rfl
  have z2 := HZ7.out.frozen 2
  go_wp2
  have HZs := hid (((HZ7.out.set 0 (.int .i64 0)).set 1 (.int .i64 0)).set 2 (.int .i64 0))
  have HBs := hid (((HB7.out.setCell (p := ⟨w.heap.size + 1 + 1 + 1, 0, none⟩) (by dsimp only; omega) (.int .i64 0)).setCell (p := ⟨w.heap.size + 1 + 1 + 1, 1, none⟩) (by dsimp only; omega) (.int .i64 0)).setCell (p := ⟨w.heap.size + 1 + 1 + 1, 2, none⟩) (by dsimp only; omega) (.int .i64 0))
  clear y0 y1 y2 z0 z1 z2
  have p0 := HZs.out.cell (k := 0) rfl
  have p1 := HZs.out.cell (k := 1) rfl
  have p2 := HZs.out.cell (k := 2) rfl
  refine bodyPost_ret (v := .tuple #[.int .i64 0, .agg #[.int .i64 0, .int .i64 0, .int .i64 0], .int .i64 2]) (by simp [results, Tryz.results12, go_sem, p0, p1, p2]) rfl ?_
  exact ⟨rfl, HBs.out⟩
set_option maxRecDepth 100000 in
set_option maxHeartbeats 8000000 in
theorem rseq_nny (r0 r1 r2 lit len off : Int) (A : Nat → Option Addr) (cp : Nat → Nat) (C : Nat → List Int) (w : World) (h : RfAt w A cp C) (hlen : -9223372036854775808 ≤ len ∧ len ≤ 9223372036854775807) (hs : seqOk r0 r1 r2 lit off = true) (ha : numC C 1 lit = none) (hb : numC C 2 (valF r0 r1 r2 lit off) = none) (c : Int) (hc : lenC C len = some c) :
    Calls Tryz.prog 12 #[fourV A cp C, .agg #[.int .i64 r0, .int .i64 r1, .int .i64 r2], .agg #[.int .i64 lit, .int .i64 len, .int .i64 off]] w (RetV w (.tuple #[.int .i64 0, .agg #[.int .i64 0, .int .i64 0, .int .i64 0], .int .i64 2])) := by
  have hbx : Below w.heap.size w ((((w.alloc (.cells #[.slice (A 0) (C 0).length (cp 0), .slice (A 1) (C 1).length (cp 1), .slice (A 2) (C 2).length (cp 2), .slice (A 3) (C 3).length (cp 3)] 30)).alloc (.cells #[.int .i64 r0, .int .i64 r1, .int .i64 r2] 40)).alloc (.cells #[.int .i64 lit, .int .i64 len, .int .i64 off] 42)).alloc (.cells #[.int .i64 0, .int .i64 0, .int .i64 0] 40)) := (((below_new w _).alloc (by simp) _).alloc (by simp; omega) _).alloc (by simp; omega) _
  have HP1 := hid (show Blk ((((w.alloc (.cells #[.slice (A 0) (C 0).length (cp 0), .slice (A 1) (C 1).length (cp 1), .slice (A 2) (C 2).length (cp 2), .slice (A 3) (C 3).length (cp 3)] 30)).alloc (.cells #[.int .i64 r0, .int .i64 r1, .int .i64 r2] 40)).alloc (.cells #[.int .i64 lit, .int .i64 len, .int .i64 off] 42)).alloc (.cells #[.int .i64 0, .int .i64 0, .int .i64 0] 40)) w.heap.size [.slice (A 0) (C 0).length (cp 0), .slice (A 1) (C 1).length (cp 1), .slice (A 2) (C 2).length (cp 2), .slice (A 3) (C 3).length (cp 3)] 30 from (((Blk.newAt rfl).alloc _).alloc _).alloc _)
  have HX1 := hid (show Blk ((((w.alloc (.cells #[.slice (A 0) (C 0).length (cp 0), .slice (A 1) (C 1).length (cp 1), .slice (A 2) (C 2).length (cp 2), .slice (A 3) (C 3).length (cp 3)] 30)).alloc (.cells #[.int .i64 r0, .int .i64 r1, .int .i64 r2] 40)).alloc (.cells #[.int .i64 lit, .int .i64 len, .int .i64 off] 42)).alloc (.cells #[.int .i64 0, .int .i64 0, .int .i64 0] 40)) (w.heap.size + 1) [.int .i64 r0, .int .i64 r1, .int .i64 r2] 40 from ((Blk.newAt (by simp)).alloc _).alloc _)
  have HS1 := hid (show Blk ((((w.alloc (.cells #[.slice (A 0) (C 0).length (cp 0), .slice (A 1) (C 1).length (cp 1), .slice (A 2) (C 2).length (cp 2), .slice (A 3) (C 3).length (cp 3)] 30)).alloc (.cells #[.int .i64 r0, .int .i64 r1, .int .i64 r2] 40)).alloc (.cells #[.int .i64 lit, .int .i64 len, .int .i64 off] 42)).alloc (.cells #[.int .i64 0, .int .i64 0, .int .i64 0] 40)) (w.heap.size + 1 + 1) [.int .i64 lit, .int .i64 len, .int .i64 off] 42 from (Blk.newAt (by simp)).alloc _)
  have HZ1 := hid (show Blk ((((w.alloc (.cells #[.slice (A 0) (C 0).length (cp 0), .slice (A 1) (C 1).length (cp 1), .slice (A 2) (C 2).length (cp 2), .slice (A 3) (C 3).length (cp 3)] 30)).alloc (.cells #[.int .i64 r0, .int .i64 r1, .int .i64 r2] 40)).alloc (.cells #[.int .i64 lit, .int .i64 len, .int .i64 off] 42)).alloc (.cells #[.int .i64 0, .int .i64 0, .int .i64 0] 40)) (w.heap.size + 1 + 1 + 1) [.int .i64 0, .int .i64 0, .int .i64 0] 40 from Blk.newAt (by simp))
  have HR1 := hid (h.low hbx)
  have HB1 := hid hbx
  have c0 := HX1.out.cell (k := 0) rfl
  have c1 := HX1.out.cell (k := 1) rfl
  have c2 := HX1.out.cell (k := 2) rfl
  obtain ⟨hr, hl, hw⟩ := seqOk_true hs
  have HRr := hid (fun W => by have h := rright21_any r0 r1 r2 W; rw [hr] at h; exact h)
  obtain ⟨n0, n1, n2, hn⟩ : ∃ n0 n1 n2, nextF r0 r1 r2 (toldF r0 r1 r2 lit (valF r0 r1 r2 lit off)) = (n0, n1, n2) := ⟨_, _, _, rfl⟩
  have hV := fun W => rvalue_any r0 r1 r2 lit off hr hl hw W
  rw [hn] at hV
  have HVl : Hid (∀ W, Calls Tryz.prog 37 #[.agg #[.int .i64 r0, .int .i64 r1, .int .i64 r2], .int .i64 lit, .int .i64 off] W (RetV W (.tuple #[.int .i64 (valF r0 r1 r2 lit off), .agg #[.int .i64 n0, .int .i64 n1, .int .i64 n2], .int .i64 0]))) := hid hV
  have HC1 : Hid (∀ W, RfAt W A cp C → Calls Tryz.prog 38 #[fourV A cp C, .int .i64 lit] W (RetV W (.tuple #[.int .i64 0, .int .i64 2]))) := hid (fun W hW => by have h := rcount_any A cp C W hW lit; rw [ha] at h; exact h)
  have HC2 : Hid (∀ W, RfAt W A cp C → Calls Tryz.prog 39 #[fourV A cp C, .int .i64 (valF r0 r1 r2 lit off)] W (RetV W (.tuple #[.int .i64 0, .int .i64 2]))) := hid (fun W hW => by have h := roff_any A cp C W hW (valF r0 r1 r2 lit off); rw [hb] at h; exact h)
  have HC3 : Hid (∀ W, RfAt W A cp C → Calls Tryz.prog 40 #[fourV A cp C, .int .i64 len] W (RetV W (.tuple #[.int .i64 c, .int .i64 0]))) := hid (fun W hW => by have h := rlen32_any A cp C W hW len hlen.1 hlen.2; rw [hc] at h; exact h)
  unfold fourV at HC1 HC2 HC3
  have hwo := winOk_true hw
  have hl9 : ¬ lit < 0 := by omega
  have ho1 : ¬ off < 1 := by omega
  have ho2 : ¬ 134217728 < off := by omega
  clear h hbx hs hr hw hV hn hlen ha hb hc
  generalize valF r0 r1 r2 lit off = v at *
  unfold fourV
  go_enter Tryz.func12, Tryz.ntmps12
  go_wp2_with fail
  clear c0 c1 c2
  generalize (((w.alloc (.cells #[.slice (A 0) (C 0).length (cp 0), .slice (A 1) (C 1).length (cp 1), .slice (A 2) (C 2).length (cp 2), .slice (A 3) (C 3).length (cp 3)] 30)).alloc (.cells #[.int .i64 r0, .int .i64 r1, .int .i64 r2] 40)).alloc (.cells #[.int .i64 lit, .int .i64 len, .int .i64 off] 42)).alloc (.cells #[.int .i64 0, .int .i64 0, .int .i64 0] 40) = w1 at *
  refine (HRr.out _).mono ?_
  rintro e w2 ⟨rfl, hb⟩
  have HP2 := hid (HP1.out.below hb HP1.out.lt)
  have HX2 := hid (HX1.out.below hb HX1.out.lt)
  have HS2 := hid (HS1.out.below hb HS1.out.lt)
  have HZ2 := hid (HZ1.out.below hb HZ1.out.lt)
  have HR2 := hid (HR1.out.low hb)
  have HB2 := hid (HB1.out.trans (hb.mono HB1.out.size))
  clear hb HRr HP1 HX1 HS1 HZ1 HR1 HB1
  have c0 := HX2.out.cell (k := 0) rfl
  have c1 := HX2.out.cell (k := 1) rfl
  have c2 := HX2.out.cell (k := 2) rfl
  have e0 := HS2.out.cell (k := 0) rfl
  have e1 := HS2.out.cell (k := 1) rfl
  have e2 := HS2.out.cell (k := 2) rfl
  go_wp2_with fail
  clear c0 c1 c2 e0 e1 e2
  refine (HVl.out _).mono ?_
  rintro e w3 ⟨rfl, hb⟩
  have HP3 := hid (HP2.out.below hb HP2.out.lt)
  have HX3 := hid (HX2.out.below hb HX2.out.lt)
  have HS3 := hid (HS2.out.below hb HS2.out.lt)
  have HZ3 := hid (HZ2.out.below hb HZ2.out.lt)
  have HR3 := hid (HR2.out.low hb)
  have HB3 := hid (HB2.out.trans (hb.mono HB2.out.size))
  clear hb HVl HP2 HX2 HS2 HZ2 HR2 HB2
  go_upto_region 4 with fail
  have hb := below_new w3 (.cells #[.int .i64 n0, .int .i64 n1, .int .i64 n2] 40)
  have HN4 := hid (Blk.new w3 [.int .i64 n0, .int .i64 n1, .int .i64 n2] 40)
  have HP4 := hid (HP3.out.below hb HP3.out.lt)
  have HX4 := hid (HX3.out.below hb HX3.out.lt)
  have HS4 := hid (HS3.out.below hb HS3.out.lt)
  have HZ4 := hid (HZ3.out.below hb HZ3.out.lt)
  have HR4 := hid (HR3.out.low hb)
  have HB4 := hid (HB3.out.trans (hb.mono HB3.out.size))
  have hq6 : w.heap.size + 1 + 1 + 1 < w3.heap.size := HZ3.out.lt
  clear hb HP3 HX3 HS3 HZ3 HR3 HB3
  generalize w3.alloc (.cells #[.int .i64 n0, .int .i64 n1, .int .i64 n2] 40) = w4 at *
  generalize w3.heap.size = q6 at *
  have d0 := HP4.out.cell (k := 0) rfl
  have d1 := HP4.out.cell (k := 1) rfl
  have d2 := HP4.out.cell (k := 2) rfl
  have d3 := HP4.out.cell (k := 3) rfl
  have e0 := HS4.out.cell (k := 0) rfl
  have e1 := HS4.out.cell (k := 1) rfl
  have e2 := HS4.out.cell (k := 2) rfl
  go_wp2_with fail
  clear d0 d1 d2 d3 e0 e1 e2
  refine (HC1.out _ HR4.out).mono ?_
  rintro e w5 ⟨rfl, hb⟩
  have HP5 := hid (HP4.out.below hb HP4.out.lt)
  have HX5 := hid (HX4.out.below hb HX4.out.lt)
  have HS5 := hid (HS4.out.below hb HS4.out.lt)
  have HZ5 := hid (HZ4.out.below hb HZ4.out.lt)
  have HR5 := hid (HR4.out.low hb)
  have HB5 := hid (HB4.out.trans (hb.mono HB4.out.size))
  have HN5 := hid (HN4.out.below hb HN4.out.lt)
  clear hb HC1 HN4 HP4 HX4 HS4 HZ4 HR4 HB4
  have d0 := HP5.out.cell (k := 0) rfl
  have d1 := HP5.out.cell (k := 1) rfl
  have d2 := HP5.out.cell (k := 2) rfl
  have d3 := HP5.out.cell (k := 3) rfl
  have e0 := HS5.out.cell (k := 0) rfl
  have e1 := HS5.out.cell (k := 1) rfl
  have e2 := HS5.out.cell (k := 2) rfl
  go_wp2_with fail
  clear d0 d1 d2 d3 e0 e1 e2
  refine (HC2.out _ HR5.out).mono ?_
  rintro e w6 ⟨rfl, hb⟩
  have HP6 := hid (HP5.out.below hb HP5.out.lt)
  have HX6 := hid (HX5.out.below hb HX5.out.lt)
  have HS6 := hid (HS5.out.below hb HS5.out.lt)
  have HZ6 := hid (HZ5.out.below hb HZ5.out.lt)
  have HR6 := hid (HR5.out.low hb)
  have HB6 := hid (HB5.out.trans (hb.mono HB5.out.size))
  have HN6 := hid (HN5.out.below hb HN5.out.lt)
  clear hb HC2 HN5 HP5 HX5 HS5 HZ5 HR5 HB5
  have d0 := HP6.out.cell (k := 0) rfl
  have d1 := HP6.out.cell (k := 1) rfl
  have d2 := HP6.out.cell (k := 2) rfl
  have d3 := HP6.out.cell (k := 3) rfl
  have e0 := HS6.out.cell (k := 0) rfl
  have e1 := HS6.out.cell (k := 1) rfl
  have e2 := HS6.out.cell (k := 2) rfl
  go_wp2_with fail
  clear d0 d1 d2 d3 e0 e1 e2
  refine (HC3.out _ HR6.out).mono ?_
  rintro e w7 ⟨rfl, hb⟩
  have HP7 := hid (HP6.out.below hb HP6.out.lt)
  have HX7 := hid (HX6.out.below hb HX6.out.lt)
  have HS7 := hid (HS6.out.below hb HS6.out.lt)
  have HZ7 := hid (HZ6.out.below hb HZ6.out.lt)
  have HR7 := hid (HR6.out.low hb)
  have HB7 := hid (HB6.out.trans (hb.mono HB6.out.size))
  have HN7 := hid (HN6.out.below hb HN6.out.lt)
  clear hb HC3 HN6 HP6 HX6 HS6 HZ6 HR6 HB6
  have y0 := HZ7.out.cell (k := 0) rfl
  have z0 := HZ7.out.frozen 0
  have y1 := HZ7.out.cell (k := 1) rfl
  have z1 := HZ7.out.frozen 1
  have y2 := HZ7.out.cell (k := 2) rfl
  have z2 := HZ7.out.frozen 2
  go_wp2
  have HZs := hid (((HZ7.out.set 0 (.int .i64 0)).set 1 (.int .i64 0)).set 2 (.int .i64 0))
  have HBs := hid (((HB7.out.setCell (p := ⟨w.heap.size + 1 + 1 + 1, 0, none⟩) (by dsimp only; omega) (.int .i64 0)).setCell (p := ⟨w.heap.size + 1 + 1 + 1, 1, none⟩) (by dsimp only; omega) (.int .i64 0)).setCell (p := ⟨w.heap.size + 1 + 1 + 1, 2, none⟩) (by dsimp only; omega) (.int .i64 0))
  clear y0 y1 y2 z0 z1 z2
  have p0 := HZs.out.cell (k := 0) rfl
  have p1 := HZs.out.cell (k := 1) rfl
  have p2 := HZs.out.cell (k := 2) rfl
  refine bodyPost_ret (v := .tuple #[.int .i64 0, .agg #[.int .i64 0, .int .i64 0, .int .i64 0], .int .i64 2]) (by simp [results, Tryz.results12, go_sem, p0, p1, p2]) rfl ?_
  exact ⟨rfl, HBs.out⟩
set_option maxRecDepth 100000 in
set_option maxHeartbeats 8000000 in
theorem rseq_nnn (r0 r1 r2 lit len off : Int) (A : Nat → Option Addr) (cp : Nat → Nat) (C : Nat → List Int) (w : World) (h : RfAt w A cp C) (hlen : -9223372036854775808 ≤ len ∧ len ≤ 9223372036854775807) (hs : seqOk r0 r1 r2 lit off = true) (ha : numC C 1 lit = none) (hb : numC C 2 (valF r0 r1 r2 lit off) = none) (hc : lenC C len = none) :
    Calls Tryz.prog 12 #[fourV A cp C, .agg #[.int .i64 r0, .int .i64 r1, .int .i64 r2], .agg #[.int .i64 lit, .int .i64 len, .int .i64 off]] w (RetV w (.tuple #[.int .i64 0, .agg #[.int .i64 0, .int .i64 0, .int .i64 0], .int .i64 2])) := by
  have hbx : Below w.heap.size w ((((w.alloc (.cells #[.slice (A 0) (C 0).length (cp 0), .slice (A 1) (C 1).length (cp 1), .slice (A 2) (C 2).length (cp 2), .slice (A 3) (C 3).length (cp 3)] 30)).alloc (.cells #[.int .i64 r0, .int .i64 r1, .int .i64 r2] 40)).alloc (.cells #[.int .i64 lit, .int .i64 len, .int .i64 off] 42)).alloc (.cells #[.int .i64 0, .int .i64 0, .int .i64 0] 40)) := (((below_new w _).alloc (by simp) _).alloc (by simp; omega) _).alloc (by simp; omega) _
  have HP1 := hid (show Blk ((((w.alloc (.cells #[.slice (A 0) (C 0).length (cp 0), .slice (A 1) (C 1).length (cp 1), .slice (A 2) (C 2).length (cp 2), .slice (A 3) (C 3).length (cp 3)] 30)).alloc (.cells #[.int .i64 r0, .int .i64 r1, .int .i64 r2] 40)).alloc (.cells #[.int .i64 lit, .int .i64 len, .int .i64 off] 42)).alloc (.cells #[.int .i64 0, .int .i64 0, .int .i64 0] 40)) w.heap.size [.slice (A 0) (C 0).length (cp 0), .slice (A 1) (C 1).length (cp 1), .slice (A 2) (C 2).length (cp 2), .slice (A 3) (C 3).length (cp 3)] 30 from (((Blk.newAt rfl).alloc _).alloc _).alloc _)
  have HX1 := hid (show Blk ((((w.alloc (.cells #[.slice (A 0) (C 0).length (cp 0), .slice (A 1) (C 1).length (cp 1), .slice (A 2) (C 2).length (cp 2), .slice (A 3) (C 3).length (cp 3)] 30)).alloc (.cells #[.int .i64 r0, .int .i64 r1, .int .i64 r2] 40)).alloc (.cells #[.int .i64 lit, .int .i64 len, .int .i64 off] 42)).alloc (.cells #[.int .i64 0, .int .i64 0, .int .i64 0] 40)) (w.heap.size + 1) [.int .i64 r0, .int .i64 r1, .int .i64 r2] 40 from ((Blk.newAt (by simp)).alloc _).alloc _)
  have HS1 := hid (show Blk ((((w.alloc (.cells #[.slice (A 0) (C 0).length (cp 0), .slice (A 1) (C 1).length (cp 1), .slice (A 2) (C 2).length (cp 2), .slice (A 3) (C 3).length (cp 3)] 30)).alloc (.cells #[.int .i64 r0, .int .i64 r1, .int .i64 r2] 40)).alloc (.cells #[.int .i64 lit, .int .i64 len, .int .i64 off] 42)).alloc (.cells #[.int .i64 0, .int .i64 0, .int .i64 0] 40)) (w.heap.size + 1 + 1) [.int .i64 lit, .int .i64 len, .int .i64 off] 42 from (Blk.newAt (by simp)).alloc _)
  have HZ1 := hid (show Blk ((((w.alloc (.cells #[.slice (A 0) (C 0).length (cp 0), .slice (A 1) (C 1).length (cp 1), .slice (A 2) (C 2).length (cp 2), .slice (A 3) (C 3).length (cp 3)] 30)).alloc (.cells #[.int .i64 r0, .int .i64 r1, .int .i64 r2] 40)).alloc (.cells #[.int .i64 lit, .int .i64 len, .int .i64 off] 42)).alloc (.cells #[.int .i64 0, .int .i64 0, .int .i64 0] 40)) (w.heap.size + 1 + 1 + 1) [.int .i64 0, .int .i64 0, .int .i64 0] 40 from Blk.newAt (by simp))
  have HR1 := hid (h.low hbx)
  have HB1 := hid hbx
  have c0 := HX1.out.cell (k := 0) rfl
  have c1 := HX1.out.cell (k := 1) rfl
  have c2 := HX1.out.cell (k := 2) rfl
  obtain ⟨hr, hl, hw⟩ := seqOk_true hs
  have HRr := hid (fun W => by have h := rright21_any r0 r1 r2 W; rw [hr] at h; exact h)
  obtain ⟨n0, n1, n2, hn⟩ : ∃ n0 n1 n2, nextF r0 r1 r2 (toldF r0 r1 r2 lit (valF r0 r1 r2 lit off)) = (n0, n1, n2) := ⟨_, _, _, rfl⟩
  have hV := fun W => rvalue_any r0 r1 r2 lit off hr hl hw W
  rw [hn] at hV
  have HVl : Hid (∀ W, Calls Tryz.prog 37 #[.agg #[.int .i64 r0, .int .i64 r1, .int .i64 r2], .int .i64 lit, .int .i64 off] W (RetV W (.tuple #[.int .i64 (valF r0 r1 r2 lit off), .agg #[.int .i64 n0, .int .i64 n1, .int .i64 n2], .int .i64 0]))) := hid hV
  have HC1 : Hid (∀ W, RfAt W A cp C → Calls Tryz.prog 38 #[fourV A cp C, .int .i64 lit] W (RetV W (.tuple #[.int .i64 0, .int .i64 2]))) := hid (fun W hW => by have h := rcount_any A cp C W hW lit; rw [ha] at h; exact h)
  have HC2 : Hid (∀ W, RfAt W A cp C → Calls Tryz.prog 39 #[fourV A cp C, .int .i64 (valF r0 r1 r2 lit off)] W (RetV W (.tuple #[.int .i64 0, .int .i64 2]))) := hid (fun W hW => by have h := roff_any A cp C W hW (valF r0 r1 r2 lit off); rw [hb] at h; exact h)
  have HC3 : Hid (∀ W, RfAt W A cp C → Calls Tryz.prog 40 #[fourV A cp C, .int .i64 len] W (RetV W (.tuple #[.int .i64 0, .int .i64 2]))) := hid (fun W hW => by have h := rlen32_any A cp C W hW len hlen.1 hlen.2; rw [hc] at h; exact h)
  unfold fourV at HC1 HC2 HC3
  have hwo := winOk_true hw
  have hl9 : ¬ lit < 0 := by omega
  have ho1 : ¬ off < 1 := by omega
  have ho2 : ¬ 134217728 < off := by omega
  clear h hbx hs hr hw hV hn hlen ha hb hc
  generalize valF r0 r1 r2 lit off = v at *
  unfold fourV
  go_enter Tryz.func12, Tryz.ntmps12
  go_wp2_with fail
  clear c0 c1 c2
  generalize (((w.alloc (.cells #[.slice (A 0) (C 0).length (cp 0), .slice (A 1) (C 1).length (cp 1), .slice (A 2) (C 2).length (cp 2), .slice (A 3) (C 3).length (cp 3)] 30)).alloc (.cells #[.int .i64 r0, .int .i64 r1, .int .i64 r2] 40)).alloc (.cells #[.int .i64 lit, .int .i64 len, .int .i64 off] 42)).alloc (.cells #[.int .i64 0, .int .i64 0, .int .i64 0] 40) = w1 at *
  refine (HRr.out _).mono ?_
  rintro e w2 ⟨rfl, hb⟩
  have HP2 := hid (HP1.out.below hb HP1.out.lt)
  have HX2 := hid (HX1.out.below hb HX1.out.lt)
  have HS2 := hid (HS1.out.below hb HS1.out.lt)
  have HZ2 := hid (HZ1.out.below hb HZ1.out.lt)
  have HR2 := hid (HR1.out.low hb)
  have HB2 := hid (HB1.out.trans (hb.mono HB1.out.size))
  clear hb HRr HP1 HX1 HS1 HZ1 HR1 HB1
  have c0 := HX2.out.cell (k := 0) rfl
  have c1 := HX2.out.cell (k := 1) rfl
  have c2 := HX2.out.cell (k := 2) rfl
  have e0 := HS2.out.cell (k := 0) rfl
  have e1 := HS2.out.cell (k := 1) rfl
  have e2 := HS2.out.cell (k := 2) rfl
  go_wp2_with fail
  clear c0 c1 c2 e0 e1 e2
  refine (HVl.out _).mono ?_
  rintro e w3 ⟨rfl, hb⟩
  have HP3 := hid (HP2.out.below hb HP2.out.lt)
  have HX3 := hid (HX2.out.below hb HX2.out.lt)
  have HS3 := hid (HS2.out.below hb HS2.out.lt)
  have HZ3 := hid (HZ2.out.below hb HZ2.out.lt)
  have HR3 := hid (HR2.out.low hb)
  have HB3 := hid (HB2.out.trans (hb.mono HB2.out.size))
  clear hb HVl HP2 HX2 HS2 HZ2 HR2 HB2
  go_upto_region 4 with fail
  have hb := below_new w3 (.cells #[.int .i64 n0, .int .i64 n1, .int .i64 n2] 40)
  have HN4 := hid (Blk.new w3 [.int .i64 n0, .int .i64 n1, .int .i64 n2] 40)
  have HP4 := hid (HP3.out.below hb HP3.out.lt)
  have HX4 := hid (HX3.out.below hb HX3.out.lt)
  have HS4 := hid (HS3.out.below hb HS3.out.lt)
  have HZ4 := hid (HZ3.out.below hb HZ3.out.lt)
  have HR4 := hid (HR3.out.low hb)
  have HB4 := hid (HB3.out.trans (hb.mono HB3.out.size))
  have hq6 : w.heap.size + 1 + 1 + 1 < w3.heap.size := HZ3.out.lt
  clear hb HP3 HX3 HS3 HZ3 HR3 HB3
  generalize w3.alloc (.cells #[.int .i64 n0, .int .i64 n1, .int .i64 n2] 40) = w4 at *
  generalize w3.heap.size = q6 at *
  have d0 := HP4.out.cell (k := 0) rfl
  have d1 := HP4.out.cell (k := 1) rfl
  have d2 := HP4.out.cell (k := 2) rfl
  have d3 := HP4.out.cell (k := 3) rfl
  have e0 := HS4.out.cell (k := 0) rfl
  have e1 := HS4.out.cell (k := 1) rfl
  have e2 := HS4.out.cell (k := 2) rfl
  go_wp2_with fail
  clear d0 d1 d2 d3 e0 e1 e2
  refine (HC1.out _ HR4.out).mono ?_
  rintro e w5 ⟨rfl, hb⟩
  have HP5 := hid (HP4.out.below hb HP4.out.lt)
  have HX5 := hid (HX4.out.below hb HX4.out.lt)
  have HS5 := hid (HS4.out.below hb HS4.out.lt)
  have HZ5 := hid (HZ4.out.below hb HZ4.out.lt)
  have HR5 := hid (HR4.out.low hb)
  have HB5 := hid (HB4.out.trans (hb.mono HB4.out.size))
  have HN5 := hid (HN4.out.below hb HN4.out.lt)
  clear hb HC1 HN4 HP4 HX4 HS4 HZ4 HR4 HB4
  have d0 := HP5.out.cell (k := 0) rfl
  have d1 := HP5.out.cell (k := 1) rfl
  have d2 := HP5.out.cell (k := 2) rfl
  have d3 := HP5.out.cell (k := 3) rfl
  have e0 := HS5.out.cell (k := 0) rfl
  have e1 := HS5.out.cell (k := 1) rfl
  have e2 := HS5.out.cell (k := 2) rfl
  go_wp2_with fail
  clear d0 d1 d2 d3 e0 e1 e2
  refine (HC2.out _ HR5.out).mono ?_
  rintro e w6 ⟨rfl, hb⟩
  have HP6 := hid (HP5.out.below hb HP5.out.lt)
  have HX6 := hid (HX5.out.below hb HX5.out.lt)
  have HS6 := hid (HS5.out.below hb HS5.out.lt)
  have HZ6 := hid (HZ5.out.below hb HZ5.out.lt)
  have HR6 := hid (HR5.out.low hb)
  have HB6 := hid (HB5.out.trans (hb.mono HB5.out.size))
  have HN6 := hid (HN5.out.below hb HN5.out.lt)
  clear hb HC2 HN5 HP5 HX5 HS5 HZ5 HR5 HB5
  have d0 := HP6.out.cell (k := 0) rfl
  have d1 := HP6.out.cell (k := 1) rfl
  have d2 := HP6.out.cell (k := 2) rfl
  have d3 := HP6.out.cell (k := 3) rfl
  have e0 := HS6.out.cell (k := 0) rfl
  have e1 := HS6.out.cell (k := 1) rfl
  have e2 := HS6.out.cell (k := 2) rfl
  go_wp2_with fail
  clear d0 d1 d2 d3 e0 e1 e2
  refine (HC3.out _ HR6.out).mono ?_
  rintro e w7 ⟨rfl, hb⟩
  have HP7 := hid (HP6.out.below hb HP6.out.lt)
  have HX7 := hid (HX6.out.below hb HX6.out.lt)
  have HS7 := hid (HS6.out.below hb HS6.out.lt)
  have HZ7 := hid (HZ6.out.below hb HZ6.out.lt)
  have HR7 := hid (HR6.out.low hb)
  have HB7 := hid (HB6.out.trans (hb.mono HB6.out.size))
  have HN7 := hid (HN6.out.below hb HN6.out.lt)
  clear hb HC3 HN6 HP6 HX6 HS6 HZ6 HR6 HB6
  have y0 := HZ7.out.cell (k := 0) rfl
  have z0 := HZ7.out.frozen 0
  have y1 := HZ7.out.cell (k := 1) rfl
  have z1 := HZ7.out.frozen 1
  have y2 := HZ7.out.cell (k := 2) rfl
  have z2 := HZ7.out.frozen 2
  go_wp2
  have HZs := hid (((HZ7.out.set 0 (.int .i64 0)).set 1 (.int .i64 0)).set 2 (.int .i64 0))
  have HBs := hid (((HB7.out.setCell (p := ⟨w.heap.size + 1 + 1 + 1, 0, none⟩) (by dsimp only; omega) (.int .i64 0)).setCell (p := ⟨w.heap.size + 1 + 1 + 1, 1, none⟩) (by dsimp only; omega) (.int .i64 0)).setCell (p := ⟨w.heap.size + 1 + 1 + 1, 2, none⟩) (by dsimp only; omega) (.int .i64 0))
  clear y0 y1 y2 z0 z1 z2
  have p0 := HZs.out.cell (k := 0) rfl
  have p1 := HZs.out.cell (k := 1) rfl
  have p2 := HZs.out.cell (k := 2) rfl
  refine bodyPost_ret (v := .tuple #[.int .i64 0, .agg #[.int .i64 0, .int .i64 0, .int .i64 0], .int .i64 2]) (by simp [results, Tryz.results12, go_sem, p0, p1, p2]) rfl ?_
  exact ⟨rfl, HBs.out⟩
theorem rseq_any (r0 r1 r2 lit len off : Int) (A : Nat → Option Addr) (cp : Nat → Nat) (C : Nat → List Int) (w : World) (h : RfAt w A cp C) (hlen : -9223372036854775808 ≤ len ∧ len ≤ 9223372036854775807) :
    Calls Tryz.prog 12 #[fourV A cp C, .agg #[.int .i64 r0, .int .i64 r1, .int .i64 r2], .agg #[.int .i64 lit, .int .i64 len, .int .i64 off]] w (RetV w (seqV C r0 r1 r2 lit len off)) := by
  unfold seqV seqO
  cases hs : seqOk r0 r1 r2 lit off with
  | false => rw [if_neg (by decide)]; exact rseq_bad r0 r1 r2 lit len off A cp C w h hs
  | true =>
    rw [if_pos rfl]
    cases ha : numC C 1 lit <;> cases hb : numC C 2 (valF r0 r1 r2 lit off) <;> cases hc : lenC C len
    · exact rseq_nnn r0 r1 r2 lit len off A cp C w h hlen hs ha hb hc
    · exact rseq_nny r0 r1 r2 lit len off A cp C w h hlen hs ha hb _ hc
    · exact rseq_nyn r0 r1 r2 lit len off A cp C w h hlen hs ha _ hb hc
    · exact rseq_nyy r0 r1 r2 lit len off A cp C w h hlen hs ha _ hb _ hc
    · exact rseq_ynn r0 r1 r2 lit len off A cp C w h hlen hs _ ha hb hc
    · exact rseq_yny r0 r1 r2 lit len off A cp C w h hlen hs _ ha hb _ hc
    · exact rseq_yyn r0 r1 r2 lit len off A cp C w h hlen hs _ ha _ hb hc
    · exact rseq_yyy r0 r1 r2 lit len off A cp C w h hlen hs _ ha _ hb _ hc
theorem seqV_two (C : Nat → List Int) (r0 r1 r2 lit len off : Int) : ∃ x n0 n1 n2 y : Int, seqV C r0 r1 r2 lit len off = .tuple #[.int .i64 x, .agg #[.int .i64 n0, .int .i64 n1, .int .i64 n2], .int .i64 y] := by
  unfold seqV
  split
  · split
    · exact ⟨_, _, _, _, _, rfl⟩
    · exact ⟨_, _, _, _, _, rfl⟩
  · exact ⟨_, _, _, _, _, rfl⟩
end Go.Proofs.YtolmmfbgljgdcaaGreat
