/-
  The walks of the split, fifth part: the closure that prices one cut.
-/
import Derived.Test.YtadnhjloeaddnaaSplitD
import Derived.Deep.RegionHeld3
namespace Go.Port
theorem countP_lt (zs : List Int) (i : Nat) (x : Int) (hi : zs[i]? = some x) (hs : zs.Pairwise (· < ·)) : zs.countP (fun y => decide (y < x)) = i := by
  induction zs generalizing i with
  | nil => simp at hi
  | cons z zs ih =>
    obtain ⟨h1, h2⟩ := List.pairwise_cons.1 hs
    cases i with
    | zero =>
      simp only [List.getElem?_cons_zero, Option.some.injEq] at hi
      subst hi
      rw [List.countP_cons, List.countP_eq_zero.2 (fun y hy => by have := h1 y hy; simp; omega)]
      simp
    | succ i =>
      simp only [List.getElem?_cons_succ] at hi
      have := h1 x (List.mem_of_getElem? hi)
      rw [List.countP_cons, ih i hi h2]
      simp [this]
theorem keepC {v W W' : World} {p2 p3 p4 : Addr} {bw br n cw cr i k : Nat} {cost : Int} {A1 A2 : List Value}
    (h : W.cell? p2 = some (.slice (some ⟨bw, 0, none⟩) n cw) ∧ W.cell? p3 = some (.slice (some ⟨br, 0, none⟩) n cr) ∧ W.cell? p4 = some (.int .i64 k) ∧ W.cell? ⟨bw, i * 2 + 1, none⟩ = some (.int .i64 cost) ∧ W.rangeAt br (k * 256) A1 ∧ W.rangeAt br (i * 256) A2 ∧ RowKit.Below v.heap.size v W)
    (hb : RowKit.Below W.heap.size W W') :
    W'.cell? p2 = some (.slice (some ⟨bw, 0, none⟩) n cw) ∧ W'.cell? p3 = some (.slice (some ⟨br, 0, none⟩) n cr) ∧ W'.cell? p4 = some (.int .i64 k) ∧ W'.cell? ⟨bw, i * 2 + 1, none⟩ = some (.int .i64 cost) ∧ W'.rangeAt br (k * 256) A1 ∧ W'.rangeAt br (i * 256) A2 ∧ RowKit.Below v.heap.size v W' := by
  obtain ⟨h1, h2, h3, h4, h5, h6, h7⟩ := h
  have t : ∀ (a : Addr) (u : Value), W.cell? a = some u → W'.cell? a = some u := fun a u h => (hb.cell (World.block_lt_of_cell? W a h)).trans h
  exact ⟨t _ _ h1, t _ _ h2, t _ _ h3, t _ _ h4, fun j u hu => t _ _ (h5 j u hu), fun j u hu => t _ _ (h6 j u hu), h7.trans (hb.mono h7.size)⟩
end Go.Port
namespace Go.Proofs.Ytadnhjloeaddnaa
open Go.RowKit Go.Port

set_option maxRecDepth 100000 in
set_option maxHeartbeats 2000000 in
theorem cut1_any (p1 p2 p3 p4 : Addr) (bp cp bw cw br cr n i k : Nat) (zs : List Int) (x cost : Int) (h1 h2 : List Int) (w : World)
    (hn : zs.length = n) (hnb : n ≤ 10000) (hs : zs.Pairwise (· < ·)) (hi : zs[i]? = some x) (hk : k < n)
    (c1 : w.cell? p1 = some (.slice (some ⟨bp, 0, none⟩) n cp)) (c2 : w.cell? p2 = some (.slice (some ⟨bw, 0, none⟩) n cw)) (c3 : w.cell? p3 = some (.slice (some ⟨br, 0, none⟩) n cr)) (c4 : w.cell? p4 = some (.int .i64 k))
    (hz : ∀ j, j < n → w.cell? ⟨bp, 0 + j, none⟩ = some (.int .i64 (zs.getD j 0)))
    (hw : w.cell? ⟨bw, i * 2 + 1, none⟩ = some (.int .i64 cost)) (hcb : 0 ≤ cost ∧ cost ≤ 4611686018427387904)
    (r1 : w.rangeAt br (k * 256) (h1.map iv)) (r2 : w.rangeAt br (i * 256) (h2.map iv)) (l1 : h1.length = 256) (l2 : h2.length = 256) (b1 : ∀ x ∈ h1, Cnt x) (b2 : ∀ x ∈ h2, Cnt x) (b3 : ∀ x ∈ List.zipWith (· - ·) h1 h2, Cnt x) :
    Calls Try.prog 47 #[.int .i64 x, .pointer (some p1), .pointer (some p2), .pointer (some p3), .pointer (some p4)] w (RetV w (.int .i64 (cost + (costS (List.zipWith (· - ·) h1 h2) + 32768)))) := by
  have hin : i < n := by rw [← hn]; exact (List.getElem?_eq_some_iff.1 hi).1
  have hlz : (List.zipWith (· - ·) h1 h2).length = 256 := by simp [l1, l2]
  have HB := hid (Try.slices_BinarySearch_int bp 0 n cp zs x w (by omega) (by omega) (fun j hj => hz j (by omega)) (by
    rw [List.take_of_length_le (by omega)]
    exact hs.imp (fun h => Int.le_of_lt h)))
  have hcp : (zs.take n).countP (fun y => decide (y < x)) = i := by
    rw [List.take_of_length_le (by omega)]
    exact countP_lt zs i x hi hs
  rw [hcp] at HB
  generalize hcont : (zs.take n).contains x = found at HB
  have HL := hid (fun (W : World) => less_any h1 h2 W l1 l2 b1 b2)
  have HP := hid (fun (b : Nat) (w1 : World) (hB : Blk w1 b ((List.zipWith (· - ·) h1 h2).map iv) 86) => priced_any (some ⟨b, 0, none⟩) 256 _ w1 (Nat.le_of_eq hlz) b3 (fun j u hu => ⟨b, 0, rfl, hB.lt, by rw [Nat.zero_add]; exact hB.cell hu⟩))
  rw [hlz] at HP
  have hp0 := costS_nonneg b3
  have hp1 := costS_bound b3 (Nat.le_of_eq hlz)
  generalize costS (List.zipWith (· - ·) h1 h2) = pr at *
  have e1 : (h1.map iv).length = 256 := by rw [List.length_map, l1]
  have e2 : (h2.map iv).length = 256 := by rw [List.length_map, l2]
  have z1 := Try.size86
  generalize hA1 : h1.map iv = A1 at *
  generalize hA2 : h2.map iv = A2 at *
  clear hz hs hi hcp hcont b1 b2 b3 l1 l2 hn
  go_enter Try.func47, Try.ntmps47
  go_wp2_with (go_at_call 48; refine HB.out.mono ?_; rintro e w' ⟨rfl, q, rfl⟩)
  have v2 : (w.drewN q).cell? p2 = some (.slice (some ⟨bw, 0, none⟩) n cw) := by simpa using c2
  have v3 : (w.drewN q).cell? p3 = some (.slice (some ⟨br, 0, none⟩) n cr) := by simpa using c3
  have v4 : (w.drewN q).cell? p4 = some (.int .i64 k) := by simpa using c4
  have vw : (w.drewN q).cell? ⟨bw, i * 2 + 1, none⟩ = some (.int .i64 cost) := by simpa using hw
  have q1 : (w.drewN q).rangeAt br (k * 256) A1 := fun j u hu => by simpa using r1 j u hu
  have q2 : (w.drewN q).rangeAt br (i * 256) A2 := fun j u hu => by simpa using r2 j u hu
  have hv : Below w.heap.size w (w.drewN q) := below_drewN (Below.refl _ _) q
  have hvs : (w.drewN q).heap.size = w.heap.size := rfl
  clear c1 c2 c3 c4 hw r1 r2
  generalize w.drewN q = v at *
  refine wp_region_noPanic ?_
  refine wp_region_held_drew (S := fun W => W.cell? p2 = some (.slice (some ⟨bw, 0, none⟩) n cw) ∧ W.cell? p3 = some (.slice (some ⟨br, 0, none⟩) n cr) ∧ W.cell? p4 = some (.int .i64 k) ∧ W.cell? ⟨bw, i * 2 + 1, none⟩ = some (.int .i64 cost) ∧ W.rangeAt br (k * 256) A1 ∧ W.rangeAt br (i * 256) A2 ∧ Below v.heap.size v W) (by kernel_rfl) (keepC ⟨v2, v3, v4, vw, q1, q2, Below.refl _ _⟩ (Below.refl _ _).drew) (fun hHeld => ?_)
  refine wpAnyH_take (i := 0) (v := .slice (some ⟨bw, 0, none⟩) n cw) (by simp only [List.getElem?_toArray, List.getElem?_cons_zero]; rfl) (by kernel_rfl) (by kernel_rfl) (by kernel_rfl) (fun _ _ _ h => h) (Or.inl ⟨by rfl, fun W hSw => ?_⟩) (by assumption) ?_
  · obtain ⟨s1, s2, s3, s4, s5⟩ := hSw
    clear s5
    go_simp
  simp only [Act.put, List.setIfInBounds_toArray, List.set_cons_zero, List.set_cons_succ]
  refine wpAnyH_take (i := 1) (v := .int .i64 i) (by simp only [List.getElem?_toArray, List.getElem?_cons_zero, List.getElem?_cons_succ]; rfl) (by kernel_rfl) (by kernel_rfl) (by kernel_rfl) (fun _ _ _ h => h) (Or.inl ⟨by rfl, fun W hSw => ?_⟩) (by assumption) ?_
  · obtain ⟨s1, s2, s3, s4, s5⟩ := hSw
    clear s5
    go_simp
  simp only [Act.put, List.setIfInBounds_toArray, List.set_cons_zero, List.set_cons_succ]
  refine wpAnyH_take (i := 2) (v := .pointer (some ⟨bw, i * 2, none⟩)) (by simp only [List.getElem?_toArray, List.getElem?_cons_zero, List.getElem?_cons_succ]; rfl) (by kernel_rfl) (by kernel_rfl) (by kernel_rfl) (fun _ _ _ h => h) (Or.inl ⟨by rfl, fun W hSw => ?_⟩) (by assumption) ?_
  · obtain ⟨s1, s2, s3, s4, s5⟩ := hSw
    clear s5
    go_simp
  simp only [Act.put, List.setIfInBounds_toArray, List.set_cons_zero, List.set_cons_succ]
  refine wpAnyH_take (i := 3) (v := .pointer (some ⟨bw, i * 2 + 1, none⟩)) (by simp only [List.getElem?_toArray, List.getElem?_cons_zero, List.getElem?_cons_succ]; rfl) (by kernel_rfl) (by kernel_rfl) (by kernel_rfl) (fun _ _ _ h => h) (Or.inl ⟨by rfl, fun W hSw => ?_⟩) (by assumption) ?_
  · obtain ⟨s1, s2, s3, s4, s5⟩ := hSw
    clear s5
    go_simp
  simp only [Act.put, List.setIfInBounds_toArray, List.set_cons_zero, List.set_cons_succ]
  refine wpAnyH_take (i := 4) (v := .int .i64 cost) (by simp only [List.getElem?_toArray, List.getElem?_cons_zero, List.getElem?_cons_succ]; rfl) (by kernel_rfl) (by kernel_rfl) (by kernel_rfl) (fun _ _ _ h => h) (Or.inl ⟨by rfl, fun W hSw => ?_⟩) (by assumption) ?_
  · obtain ⟨s1, s2, s3, s4, s5⟩ := hSw
    clear s5
    go_simp
  simp only [Act.put, List.setIfInBounds_toArray, List.set_cons_zero, List.set_cons_succ]
  refine wpAnyH_take (i := 5) (v := .slice (some ⟨br, 0, none⟩) n cr) (by simp only [List.getElem?_toArray, List.getElem?_cons_zero, List.getElem?_cons_succ]; rfl) (by kernel_rfl) (by kernel_rfl) (by kernel_rfl) (fun _ _ _ h => h) (Or.inl ⟨by rfl, fun W hSw => ?_⟩) (by assumption) ?_
  · obtain ⟨s1, s2, s3, s4, s5⟩ := hSw
    clear s5
    go_simp
  simp only [Act.put, List.setIfInBounds_toArray, List.set_cons_zero, List.set_cons_succ]
  refine wpAnyH_take (i := 6) (v := .int .i64 k) (by simp only [List.getElem?_toArray, List.getElem?_cons_zero, List.getElem?_cons_succ]; rfl) (by kernel_rfl) (by kernel_rfl) (by kernel_rfl) (fun _ _ _ h => h) (Or.inl ⟨by rfl, fun W hSw => ?_⟩) (by assumption) ?_
  · obtain ⟨s1, s2, s3, s4, s5⟩ := hSw
    clear s5
    go_simp
  simp only [Act.put, List.setIfInBounds_toArray, List.set_cons_zero, List.set_cons_succ]
  refine wpAnyH_take (i := 7) (v := .pointer (some ⟨br, k * 256, none⟩)) (by simp only [List.getElem?_toArray, List.getElem?_cons_zero, List.getElem?_cons_succ]; rfl) (by kernel_rfl) (by kernel_rfl) (by kernel_rfl) (fun _ _ _ h => h) (Or.inl ⟨by rfl, fun W hSw => ?_⟩) (by assumption) ?_
  · obtain ⟨s1, s2, s3, s4, s5⟩ := hSw
    clear s5
    go_simp
  simp only [Act.put, List.setIfInBounds_toArray, List.set_cons_zero, List.set_cons_succ]
  refine wpAnyH_take (i := 8) (v := .agg A1.toArray) (by simp only [List.getElem?_toArray, List.getElem?_cons_zero, List.getElem?_cons_succ]; rfl) (by kernel_rfl) (by kernel_rfl) (by kernel_rfl) (fun _ _ _ h => h) (yieldsIf_load_mid (by rfl) 86 _ rfl br (k * 256) rfl A1 _ (fun W hSw => hSw.2.2.2.2.1) Try.underlying86 rfl (by rw [e1]; exact Try.size86)) (by assumption) ?_
  simp only [Act.put, List.setIfInBounds_toArray, List.set_cons_zero, List.set_cons_succ]
  refine wpAnyH_take (i := 9) (v := .slice (some ⟨br, 0, none⟩) n cr) (by simp only [List.getElem?_toArray, List.getElem?_cons_zero, List.getElem?_cons_succ]; rfl) (by kernel_rfl) (by kernel_rfl) (by kernel_rfl) (fun _ _ _ h => h) (Or.inl ⟨by rfl, fun W hSw => ?_⟩) (by assumption) ?_
  · obtain ⟨s1, s2, s3, s4, s5⟩ := hSw
    clear s5
    go_simp
  simp only [Act.put, List.setIfInBounds_toArray, List.set_cons_zero, List.set_cons_succ]
  refine wpAnyH_take (i := 10) (v := .int .i64 i) (by simp only [List.getElem?_toArray, List.getElem?_cons_zero, List.getElem?_cons_succ]; rfl) (by kernel_rfl) (by kernel_rfl) (by kernel_rfl) (fun _ _ _ h => h) (Or.inl ⟨by rfl, fun W hSw => ?_⟩) (by assumption) ?_
  · obtain ⟨s1, s2, s3, s4, s5⟩ := hSw
    clear s5
    go_simp
  simp only [Act.put, List.setIfInBounds_toArray, List.set_cons_zero, List.set_cons_succ]
  refine wpAnyH_take (i := 11) (v := .pointer (some ⟨br, i * 256, none⟩)) (by simp only [List.getElem?_toArray, List.getElem?_cons_zero, List.getElem?_cons_succ]; rfl) (by kernel_rfl) (by kernel_rfl) (by kernel_rfl) (fun _ _ _ h => h) (Or.inl ⟨by rfl, fun W hSw => ?_⟩) (by assumption) ?_
  · obtain ⟨s1, s2, s3, s4, s5⟩ := hSw
    clear s5
    go_simp
  simp only [Act.put, List.setIfInBounds_toArray, List.set_cons_zero, List.set_cons_succ]
  refine wpAnyH_take (i := 12) (v := .agg A2.toArray) (by simp only [List.getElem?_toArray, List.getElem?_cons_zero, List.getElem?_cons_succ]; rfl) (by kernel_rfl) (by kernel_rfl) (by kernel_rfl) (fun _ _ _ h => h) (yieldsIf_load_mid (by rfl) 86 _ rfl br (i * 256) rfl A2 _ (fun W hSw => hSw.2.2.2.2.2.1) Try.underlying86 rfl (by rw [e2]; exact Try.size86)) (by assumption) ?_
  simp only [Act.put, List.setIfInBounds_toArray, List.set_cons_zero, List.set_cons_succ]
  refine wpAnyH_ready (rs := [13]) (by kernel_rfl) (by simp) ?_
  refine AllReadyH.cons (by simp only [List.getElem?_toArray, List.getElem?_cons_zero, List.getElem?_cons_succ]; rfl) (fun K hK => ?_) AllReadyH.nil
  rw [if_pos (by rfl)]
  go_simp
  go_at_call 49
  refine (HL.out _).mono ?_
  rintro e w1 ⟨b, rfl, hB, hb⟩
  dsimp only
  refine hK.out _ _ (keepC hHeld hb) (fun hHeld1 => ?_)
  clear hK K
  refine wpAnyH_ready (rs := [14]) (by kernel_rfl) (by simp) ?_
  refine AllReadyH.cons (by simp only [List.getElem?_toArray, List.getElem?_cons_zero, List.getElem?_cons_succ]; rfl) (fun K hK => ?_) AllReadyH.nil
  rw [if_pos (by rfl)]
  go_simp
  go_at_call 38
  refine (HP.out _ _ hB).mono ?_
  rintro e w2 ⟨rfl, hb2⟩
  dsimp only
  refine hK.out _ _ (keepC hHeld1 hb2) (fun hHeld2 => ?_)
  clear hK K
  refine wpAnyH_take (i := 15) (v := .int .i64 (cost + (pr + 32768))) (by simp only [List.getElem?_toArray, List.getElem?_cons_zero, List.getElem?_cons_succ]; rfl) (by kernel_rfl) (by kernel_rfl) (by kernel_rfl) (fun _ _ _ h => h) (Or.inl ⟨by rfl, fun W hSw => ?_⟩) (by assumption) ?_
  · obtain ⟨s1, s2, s3, s4, s5⟩ := hSw
    clear s5
    go_simp
    rw [IntKind.wrap_i64]
    omega
  simp only [Act.put, List.setIfInBounds_toArray, List.set_cons_zero, List.set_cons_succ]
  refine wpAnyH_take (i := 16) (v := .int .i64 (cost + (pr + 32768))) (by simp only [List.getElem?_toArray, List.getElem?_cons_zero, List.getElem?_cons_succ]; rfl) (by kernel_rfl) (by kernel_rfl) (by kernel_rfl) (fun _ _ _ h => h) (Or.inl ⟨by rfl, fun W hSw => ?_⟩) (by assumption) ?_
  · obtain ⟨s1, s2, s3, s4, s5⟩ := hSw
    clear s5
    go_simp
  simp only [Act.put, List.setIfInBounds_toArray, List.set_cons_zero, List.set_cons_succ]
  refine wpAnyH_done (by kernel_rfl) ?_ _
  refine NoPanic.normal ?_
  have hfin : Below w.heap.size w w2 := hv.trans (hHeld2.2.2.2.2.2.2.mono (Nat.le_of_eq hvs.symm))
  go_wp2
  go_ret
  exact ⟨rfl, hfin⟩
end Go.Proofs.Ytadnhjloeaddnaa
