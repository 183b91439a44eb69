/-
  The walks of layer 33 (best): the least of many.
-/
import Derived.Test.YtlgablepckmogaaGreatQ25
import Derived.Test.YtlgablepckmogaaGreatQ26
import Derived.LoopIn
import Derived.WalkMore
namespace Go.Proofs.YtlgablepckmogaaGreat
open Go.RowKit Go.Port
attribute [local go_sem] Oper.semAt_some
set_option maxRecDepth 1000000 in
set_option maxHeartbeats 8000000 in
theorem bleast_any (w : World) (q3 q6 q7 q4 : Nat) (of : Sq → Int) (a : Option Addr) (c : Nat) (x0 : Sq) (rest : List Sq) (hl : rest.length + 1 ≤ c) (hln : rest.length ≤ 1000) (hc : CellsAt w a ((x0 :: rest).flatMap sqc))
    (hof : ∀ W, Below w.heap.size w W → ∀ s ∈ x0 :: rest, Calls Tryz.prog 110 #[.agg #[.int .i64 s.lit, .int .i64 s.len, .int .i64 s.off], .pointer (some ⟨q3, 0, none⟩), .pointer (some ⟨q6, 0, none⟩), .pointer (some ⟨q7, 0, none⟩), .pointer (some ⟨q4, 0, none⟩)] W (RetV W (.int .i64 (of s)))) :
    Calls Tryz.prog 109 #[.func (.func 110) #[] #[.pointer (some ⟨q3, 0, none⟩), .pointer (some ⟨q6, 0, none⟩), .pointer (some ⟨q7, 0, none⟩), .pointer (some ⟨q4, 0, none⟩)], .slice a (rest.length + 1) c] w (RetV w (.tuple #[.agg (sqc (leastP of x0 rest).1).toArray, .int .i64 (leastP of x0 rest).2])) := by
  obtain ⟨bl, o, rfl, hblt, _⟩ := hc 0 (.int .i64 x0.lit) (by rw [List.flatMap_cons]; rfl)
  have HC := hid (fun W (hb : Below w.heap.size w W) k s (hs : (x0 :: rest)[k]? = some s) => show W.cell? ⟨bl, o + k * 3, none⟩ = some (.int .i64 s.lit) ∧ W.cell? ⟨bl, o + k * 3 + 1, none⟩ = some (.int .i64 s.len) ∧ W.cell? ⟨bl, o + k * 3 + 2, none⟩ = some (.int .i64 s.off) from by
    have hcW := at_same hc hb
    obtain ⟨_, _, e0, _, c0⟩ := hcW (k * 3 + 0) (.int .i64 s.lit) (by rw [sqc_get hs 0 (by omega)]; rfl)
    cases e0
    obtain ⟨_, _, e1, _, c1⟩ := hcW (k * 3 + 1) (.int .i64 s.len) (by rw [sqc_get hs 1 (by omega)]; rfl)
    cases e1
    obtain ⟨_, _, e2, _, c2⟩ := hcW (k * 3 + 2) (.int .i64 s.off) (by rw [sqc_get hs 2 (by omega)]; rfl)
    cases e2
    exact ⟨c0, by rw [Nat.add_assoc]; exact c1, by rw [Nat.add_assoc]; exact c2⟩)
  have HOf := hid hof
  obtain ⟨ifo, hinfo, _, hisz, _⟩ := info_parts Tryz.info_seq
  have hcut := run_tail (P := Tryz.prog) Tryz.underlying28 hinfo hisz bl o rest.length c
  have hcutA := run_tailAt (P := Tryz.prog) Tryz.underlying28 hinfo hisz bl o rest.length c
  obtain ⟨adr, hadr⟩ : ∃ adr, (if c = 1 then some (⟨bl, o, none⟩ : Addr) else some ⟨bl, o + 3, none⟩) = adr := ⟨_, rfl⟩
  rw [hadr] at hcut hcutA
  have HAd := hid (show ∀ k, k < rest.length → adr = some ⟨bl, o + 3, none⟩ from fun k hk => by rw [← hadr, if_neg (by omega)])
  clear hc hof hinfo hisz hadr
  have hB1 := below_new w (.cells #[.int .i64 0, .int .i64 0, .int .i64 0] 43)
  have hX1 := Blk.new w [.int .i64 0, .int .i64 0, .int .i64 0] 43
  have HB1 := hid hB1
  have HX1 := hid hX1
  clear hB1 hX1
  go_enter Tryz.func109, Tryz.ntmps109
  go_wp2_with fail
  generalize w.alloc (.cells #[.int .i64 0, .int .i64 0, .int .i64 0] 43) = w1 at *
  refine wp_region_noPanic ?_
  refine wp_region_held_drew (S := (fun W' => Below w.heap.size w W' ∧ ∃ x y z, Blk W' w.heap.size [x, y, z] 43)) (by kernel_rfl) ⟨HB1.out.drew, _, _, _, HX1.out⟩ (fun hHeld => ?_)
  refine wpAnyH_take (i := 0) (v := .slice (some ⟨bl, o, none⟩) (rest.length + 1) c) (by simp only [List.getElem?_toArray, List.getElem?_cons_zero]; rfl) (by kernel_rfl) (by kernel_rfl) (by kernel_rfl) (fun _ _ _ h => h) (Or.inl ⟨by rfl, fun W hSw => ?_⟩) (by assumption) ?_
  · clear hSw
    go_simp
  simp only [Act.put, List.setIfInBounds_toArray, List.set_cons_zero, List.set_cons_succ]
  refine wpAnyH_take (i := 1) (v := .pointer (some ⟨bl, o, none⟩)) (by simp only [List.getElem?_toArray, List.getElem?_cons_zero, List.getElem?_cons_succ]; rfl) (by kernel_rfl) (by kernel_rfl) (by kernel_rfl) (fun _ _ _ h => h) (Or.inl ⟨by rfl, fun W hSw => ?_⟩) (by assumption) ?_
  · clear hSw
    go_simp
  simp only [Act.put, List.setIfInBounds_toArray, List.set_cons_zero, List.set_cons_succ]
  refine wpAnyH_take (i := 2) (v := .agg #[.int .i64 x0.lit, .int .i64 x0.len, .int .i64 x0.off]) (by simp only [List.getElem?_toArray, List.getElem?_cons_zero, List.getElem?_cons_succ]; rfl) (by kernel_rfl) (by kernel_rfl) (by kernel_rfl) (fun _ _ _ h => h) (Or.inl ⟨by rfl, fun W hSw => ?_⟩) (by assumption) ?_
  · have hT := HC.out W hSw.1 0 x0 rfl
    clear hSw
    have c0 := hT.1
    have c1 := hT.2.1
    have c2 := hT.2.2
    rw [Nat.zero_mul, Nat.add_zero] at c0 c1 c2
    clear hT
    go_simp
  simp only [Act.put, List.setIfInBounds_toArray, List.set_cons_zero, List.set_cons_succ]
  refine wpAnyH_take (i := 3) (v := .func (.func 110) #[] #[.pointer (some ⟨q3, 0, none⟩), .pointer (some ⟨q6, 0, none⟩), .pointer (some ⟨q7, 0, none⟩), .pointer (some ⟨q4, 0, none⟩)]) (by simp only [List.getElem?_toArray, List.getElem?_cons_zero, List.getElem?_cons_succ]; rfl) (by kernel_rfl) (by kernel_rfl) (by kernel_rfl) (fun _ _ _ h => h) (Or.inl ⟨by rfl, fun W hSw => ?_⟩) (by assumption) ?_
  · clear hSw
    go_simp
  simp only [Act.put, List.setIfInBounds_toArray, List.set_cons_zero, List.set_cons_succ]
  refine wpAnyH_take (i := 4) (v := .slice (some ⟨bl, o, none⟩) (rest.length + 1) c) (by simp only [List.getElem?_toArray, List.getElem?_cons_zero, List.getElem?_cons_succ]; rfl) (by kernel_rfl) (by kernel_rfl) (by kernel_rfl) (fun _ _ _ h => h) (Or.inl ⟨by rfl, fun W hSw => ?_⟩) (by assumption) ?_
  · clear hSw
    go_simp
  simp only [Act.put, List.setIfInBounds_toArray, List.set_cons_zero, List.set_cons_succ]
  refine wpAnyH_take (i := 5) (v := .pointer (some ⟨bl, o, none⟩)) (by simp only [List.getElem?_toArray, List.getElem?_cons_zero, List.getElem?_cons_succ]; rfl) (by kernel_rfl) (by kernel_rfl) (by kernel_rfl) (fun _ _ _ h => h) (Or.inl ⟨by rfl, fun W hSw => ?_⟩) (by assumption) ?_
  · clear hSw
    go_simp
  simp only [Act.put, List.setIfInBounds_toArray, List.set_cons_zero, List.set_cons_succ]
  refine wpAnyH_take (i := 6) (v := .agg #[.int .i64 x0.lit, .int .i64 x0.len, .int .i64 x0.off]) (by simp only [List.getElem?_toArray, List.getElem?_cons_zero, List.getElem?_cons_succ]; rfl) (by kernel_rfl) (by kernel_rfl) (by kernel_rfl) (fun _ _ _ h => h) (Or.inl ⟨by rfl, fun W hSw => ?_⟩) (by assumption) ?_
  · have hT := HC.out W hSw.1 0 x0 rfl
    clear hSw
    have c0 := hT.1
    have c1 := hT.2.1
    have c2 := hT.2.2
    rw [Nat.zero_mul, Nat.add_zero] at c0 c1 c2
    clear hT
    go_simp
  simp only [Act.put, List.setIfInBounds_toArray, List.set_cons_zero, List.set_cons_succ]
  refine wpAnyH_ready (rs := [7]) (by kernel_rfl) (by simp) ?_
  refine AllReadyH.cons (by simp only [List.getElem?_toArray, List.getElem?_cons_zero, List.getElem?_cons_succ]; rfl) (fun K hK => ?_) AllReadyH.nil
  rw [if_pos (by rfl)]
  go_simp
  go_at_call 110
  refine (HOf.out _ HB1.out.drew x0 (by simp)).mono ?_
  rintro e w2 ⟨rfl, hb2⟩
  have HB2 := hid (HB1.out.drew.trans (hb2.mono HB1.out.drew.size))
  have HX2 := hid ((show Blk w1.drew w.heap.size [.int .i64 0, .int .i64 0, .int .i64 0] 43 from HX1.out).below hb2 HX1.out.lt)
  dsimp only
  refine hK.out _ _ ⟨HB2.out, _, _, _, HX2.out⟩ (fun _ => ?_)
  clear hK K hb2
  have y0 := HX2.out.cell (k := 0) rfl
  have y1 := HX2.out.cell (k := 1) rfl
  have y2 := HX2.out.cell (k := 2) rfl
  have z0 := HX2.out.frozen 0
  have z1 := HX2.out.frozen 1
  have z2 := HX2.out.frozen 2
  refine wpAnyH_ready (rs := [8]) (by kernel_rfl) (by simp) ?_
  refine AllReadyH.cons (by simp only [List.getElem?_toArray, List.getElem?_cons_zero, List.getElem?_cons_succ]; rfl) (fun K hK => ?_) AllReadyH.nil
  rw [if_pos (by rfl)]
  go_simp
  refine hK.out _ _ ?_ (fun _ => ?_)
  · exact ⟨((HB2.out.setCell (p := ⟨w.heap.size, 0, none⟩) (Nat.le_refl _) _).setCell (p := ⟨w.heap.size, 1, none⟩) (Nat.le_refl _) _).setCell (p := ⟨w.heap.size, 2, none⟩) (Nat.le_refl _) _, _, _, _, ((HX2.out.set 0 _).set 1 _).set 2 _⟩
  clear hK K y0 y1 y2 z0 z1 z2
  have HB3 := hid (((HB2.out.setCell (p := ⟨w.heap.size, 0, none⟩) (Nat.le_refl _) (.int .i64 x0.lit)).setCell (p := ⟨w.heap.size, 1, none⟩) (Nat.le_refl _) (.int .i64 x0.len)).setCell (p := ⟨w.heap.size, 2, none⟩) (Nat.le_refl _) (.int .i64 x0.off))
  have HX3 := hid (show Blk (((w2.setCell ⟨w.heap.size, 0, none⟩ (.int .i64 x0.lit)).setCell ⟨w.heap.size, 1, none⟩ (.int .i64 x0.len)).setCell ⟨w.heap.size, 2, none⟩ (.int .i64 x0.off)) w.heap.size [.int .i64 x0.lit, .int .i64 x0.len, .int .i64 x0.off] 43 from ((HX2.out.set 0 (.int .i64 x0.lit)).set 1 (.int .i64 x0.len)).set 2 (.int .i64 x0.off))
  generalize ((w2.setCell ⟨w.heap.size, 0, none⟩ (.int .i64 x0.lit)).setCell ⟨w.heap.size, 1, none⟩ (.int .i64 x0.len)).setCell ⟨w.heap.size, 2, none⟩ (.int .i64 x0.off) = w3 at *
  refine wpAnyH_ready (rs := [9]) (by kernel_rfl) (by simp) ?_
  refine AllReadyH.cons (by simp only [List.getElem?_toArray, List.getElem?_cons_zero, List.getElem?_cons_succ]; rfl) (fun K hK => ?_) AllReadyH.nil
  rw [if_pos (by rfl)]
  go_simp
  refine hK.out _ _ ⟨HB3.out, _, _, _, HX3.out⟩ (fun _ => ?_)
  clear hK K
  refine wpAnyH_done (by kernel_rfl) ?_ _
  refine NoPanic.normal ?_
  go_wp2_with fail
  clear hcut hcutA
  go_loopg [20, 5] (rest.length) (fun gk t n wr => ∃ k : Nat, gk = rest.length - k ∧ k ≤ rest.length ∧ t = .int .i64 (k : Int) ∧ n = .int .i64 (leastP of x0 (rest.take k)).2 ∧ Hid (Below w.heap.size w wr) ∧ Hid (Blk wr w.heap.size (sqc (leastP of x0 (rest.take k)).1) 43))
  case atStart => exact ⟨0, rfl, Nat.zero_le _, rfl, by simp [leastP], HB3, HX3⟩
  case round =>
    obtain ⟨k, hgk, hk, rfl, rfl, HB, HX⟩ := hrel
    by_cases hlt : k < rest.length
    · obtain ⟨s, hs⟩ : ∃ s, rest[k]? = some s := ⟨rest[k], by simp [hlt]⟩
      obtain ⟨c0, c1, c2⟩ := HC.out wr HB.out (k + 1) s (by simpa using hs)
      rw [show o + (k + 1) * 3 = o + 3 + k * 3 from by omega] at c0 c1 c2
      have hnx : rest.take (k + 1) = rest.take k ++ [s] := by rw [List.take_add_one, hs]; rfl
      have hls := leastP_snoc of x0 s (rest.take k)
      rw [← hnx] at hls
      obtain ⟨⟨⟨ml, mn, mo⟩, mv⟩, hm⟩ : ∃ m, leastP of x0 (rest.take k) = m := ⟨_, rfl⟩
      rw [hm] at hls HX ⊢
      dsimp only at hls HX ⊢
      have hmem : s ∈ x0 :: rest := List.mem_cons_of_mem _ (List.mem_of_getElem? hs)
      have HNx := hid hls
      have HG := hid hgk
      have hBy := HB.out.alloc HB.out.size (.cells #[.int .i64 s.lit, .int .i64 s.len, .int .i64 s.off] 43)
      have HBy := hid hBy
      have HYb := hid (Blk.new wr [.int .i64 s.lit, .int .i64 s.len, .int .i64 s.off] 43)
      have HXy := hid (HX.out.alloc (.cells #[.int .i64 s.lit, .int .i64 s.len, .int .i64 s.off] 43))
      have HCl := hid (HOf.out _ hBy s hmem)
      have hadr := HAd.out k hlt
      have hxlt := HX.out.lt
      have hXne := Nat.ne_of_lt hxlt
      subst hadr
      clear hs hnx hls hm hmem hgk hBy
      go_wp2_with fail
      generalize wr.alloc (.cells #[.int .i64 s.lit, .int .i64 s.len, .int .i64 s.off] 43) = wy at *
      refine HCl.out.mono ?_
      rintro e wz ⟨rfl, hbz⟩
      have HBz := hid (HBy.out.trans (hbz.mono HBy.out.size))
      have hYz := HYb.out.below hbz HYb.out.lt
      have hXz := HXy.out.below hbz HXy.out.lt
      have d0 := hYz.cell (k := 0) rfl
      have d1 := hYz.cell (k := 1) rfl
      have d2 := hYz.cell (k := 2) rfl
      have HXz := hid hXz
      have e0 := hXz.cell (k := 0) rfl
      have e1 := hXz.cell (k := 1) rfl
      have e2 := hXz.cell (k := 2) rfl
      have z0 := hXz.frozen 0
      have z1 := hXz.frozen 1
      have z2 := hXz.frozen 2
      clear hbz hYz hXz c0 c1 c2
      by_cases hle : of s < mv
      · have hnx := HNx.out
        rw [if_pos hle] at hnx
        have HN := hid hnx
        clear hnx HNx
        go_wp2
        go_roundg (rest.length - (k + 1))
        case rel =>
          refine ⟨k + 1, rfl, hlt, by go_num, by rw [HN.out], hid ?_, hid ?_⟩
          · exact ((HBz.out.setCell (p := ⟨w.heap.size, 0, none⟩) (Nat.le_refl _) _).setCell (p := ⟨w.heap.size, 1, none⟩) (Nat.le_refl _) _).setCell (p := ⟨w.heap.size, 2, none⟩) (Nat.le_refl _) _
          · rw [HN.out]
            exact ((HXz.out.set 0 _).set 1 _).set 2 _
        case measure => have := HG.out; omega
      · have hnx := HNx.out
        rw [if_neg hle] at hnx
        have HN := hid hnx
        clear hnx HNx
        go_wp2
        go_roundg (rest.length - (k + 1))
        case rel => exact ⟨k + 1, rfl, hlt, by go_num, by rw [HN.out], HBz, by rw [HN.out]; exact HXz⟩
        case measure => have := HG.out; omega
    · obtain rfl : k = rest.length := by omega
      rw [List.take_of_length_le (Nat.le_refl _)] at HX ⊢
      obtain ⟨⟨⟨ml, mn, mo⟩, mv⟩, hm⟩ : ∃ m, leastP of x0 rest = m := ⟨_, rfl⟩
      rw [hm] at HX ⊢
      dsimp only at HX ⊢
      have e0 := HX.out.cell (k := 0) rfl
      have e1 := HX.out.cell (k := 1) rfl
      have e2 := HX.out.cell (k := 2) rfl
      have z0 := HX.out.frozen 0
      have z1 := HX.out.frozen 1
      have z2 := HX.out.frozen 2
      have HM := hid hm
      clear hm hgk
      have HBf := HB
      have HXf := HX
      go_wp2
      have HX9 := ((HXf.out.set 0 (.int .i64 ml)).set 1 (.int .i64 mn)).set 2 (.int .i64 mo)
      have HB9 := ((HBf.out.setCell (p := ⟨w.heap.size, 0, none⟩) (Nat.le_refl _) (.int .i64 ml)).setCell (p := ⟨w.heap.size, 1, none⟩) (Nat.le_refl _) (.int .i64 mn)).setCell (p := ⟨w.heap.size, 2, none⟩) (Nat.le_refl _) (.int .i64 mo)
      generalize ((wr.setCell ⟨w.heap.size, 0, none⟩ (.int .i64 ml)).setCell ⟨w.heap.size, 1, none⟩ (.int .i64 mn)).setCell ⟨w.heap.size, 2, none⟩ (.int .i64 mo) = wq at *
      have p0 := HX9.cell (k := 0) rfl
      have p1 := HX9.cell (k := 1) rfl
      have p2 := HX9.cell (k := 2) rfl
      refine bodyPost_ret (v := .tuple #[.agg #[.int .i64 ml, .int .i64 mn, .int .i64 mo], .int .i64 mv]) (by simp [results, Tryz.results109, go_sem, p0, p1, p2]) rfl ?_
      exact ⟨by rw [HM.out]; rfl, HB9⟩
end Go.Proofs.YtlgablepckmogaaGreat
