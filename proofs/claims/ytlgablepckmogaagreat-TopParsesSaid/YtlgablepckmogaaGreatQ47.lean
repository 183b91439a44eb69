/-
  The walks of layer 26 (exec), fourth part: does.
-/
import Derived.Test.YtlgablepckmogaaGreatQ46
namespace Go.Proofs.YtlgablepckmogaaGreat
open Go.RowKit Go.Port
attribute [local go_sem] Oper.semAt_some
set_option maxRecDepth 100000 in
set_option maxHeartbeats 4000000 in
theorem xdoes_ok (base rb xb : Nat) (row : Option Nat) (size Li Ln Of : Nat) (st ll : List UInt8) (w : World) (h : ExAt 66 5 106 base rb xb row size st ll w) (hn : Li ≤ ll.length) (hd : 1 ≤ Of) (hds : Of ≤ size) (hdl : Of ≤ st.length + Li) (hl1 : 1 ≤ Ln) (hl2 : Ln ≤ 131072) (hln : st.length + Li + Ln ≤ 1000000) :
    Calls Tryz.prog 73 #[.pointer (some ⟨xb, 0, none⟩), .agg #[.int .i64 (Li : Int), .int .i64 (Ln : Int), .int .i64 (Of : Int)]] w fun e w' => ∃ v row', e = .returned v ∧ w'.ownsRow w.heap.size 5 1 v (Li + Ln) ((ll.take Li ++ copyS (st ++ ll.take Li) Of Ln).map bv) ∧ ExAt 66 5 106 base rb xb row' size (st ++ ll.take Li ++ copyS (st ++ ll.take Li) Of Ln) (ll.drop Li) w' ∧ TurnX rb xb row row' w w' ∧ ∀ k, v.ownBlock = some k → k ≠ rb ∧ k ≠ xb ∧ some k ≠ row' := by
  obtain ⟨sb, hsb⟩ : ∃ sb, sb = w.heap.size := ⟨_, rfl⟩
  obtain ⟨w1, hw1⟩ : ∃ w1, w1 = w.alloc (.cells #[.int .i64 (Li : Int), .int .i64 (Ln : Int), .int .i64 (Of : Int)] 43) := ⟨_, rfl⟩
  have hb1 : Below w.heap.size w w1 := by rw [hw1]; exact below_new w _
  have hS1 : Blk w1 sb [.int .i64 (Li : Int), .int .i64 (Ln : Int), .int .i64 (Of : Int)] 43 := by rw [hw1, hsb]; exact Blk.new w _ _
  have hE1 := h.below hb1
  have hfar : sb ≠ rb ∧ some sb ≠ row := h.ring.far (by omega)
  have hxs : sb ≠ xb := by
    obtain ⟨la, lc, hx, _⟩ := h.ex
    have := hx.lt
    omega
  have htl : (ll.take Li).length = Li := by rw [List.length_take]; omega
  have hsl : (st ++ ll.take Li).length = st.length + Li := by rw [List.length_append, htl]
  have HTk := hid (xtakes_ok base rb xb row size Li st ll w1 hE1 hn (by omega))
  have HCo := hid (fun row' W (hR : RgAt 66 5 base rb row' size (st ++ ll.take Li) W) => rgcopy_any base rb row' size Of Ln (st ++ ll.take Li) W hR hd hds (by omega) hl2 (by omega))
  have HS1 := hid hS1
  have HFar := hid (And.intro hfar.1 (And.intro hfar.2 hxs))
  have HB1 := hid hb1
  have HW := hid hw1
  have HSb := hid hsb
  have HN := hid (And.intro hl1 (And.intro hl2 (And.intro hln htl)))
  clear h hn hd hds hdl hl1 hl2 hln hb1 hS1 hE1 hfar hxs htl hsl hw1 hsb
  go_enter Tryz.func73, Tryz.ntmps73
  go_upto_region 1 with fail
  rw [← HW.out, ← HSb.out]
  have s0 := HS1.out.cell (k := 0) rfl
  go_wp2_with (go_at_call 74; refine HTk.out.mono ?_; refine Hid.out ?_)
  refine hid ?_
  rintro e w2 ⟨a2, row2, rfl, hE2, hP2, hT2⟩
  have HS2 := hid (show Blk w2 sb [.int .i64 (Li : Int), .int .i64 (Ln : Int), .int .i64 (Of : Int)] 43 from (hT2.block sb HS1.out.lt HFar.out.1 HFar.out.2.2 HFar.out.2.1).trans HS1.out)
  have HFar2 := hid (show some sb ≠ row2 from hT2.far HS1.out.lt HFar.out.2.1)
  have HX2 := hid ((TurnX.of_below HB1.out).trans hT2)
  have HE2 := hid hE2
  have HP2 := hid hP2
  have hsz2 : w.heap.size ≤ w2.heap.size := HX2.out.size
  clear hE2 hP2 hT2 HTk s0 HW HS1 HB1
  dsimp only
  obtain ⟨la2, lc2, hx2, _⟩ := HE2.out.ex
  have x2 := hx2.cell (k := 0) rfl
  have s1 := HS2.out.cell (k := 1) rfl
  have s2 := HS2.out.cell (k := 2) rfl
  clear hx2
  go_wp2_with fail
  refine wp_region_noPanic ?_
  refine wp_region_held_drew (S := fun W => W.cell? ⟨xb, 0, none⟩ = some (.pointer (some ⟨rb, 0, none⟩)) ∧ W.cell? ⟨sb, 1, none⟩ = some (.int .i64 (Ln : Int)) ∧ W.cell? ⟨sb, 2, none⟩ = some (.int .i64 (Of : Int))) (by kernel_rfl) ⟨x2, s1, s2⟩ (fun hHeld => ?_)
  refine wpAnyH_take (i := 0) (v := .pointer (some ⟨xb, 0, none⟩)) (by simp only [List.getElem?_toArray, List.getElem?_cons_zero]; rfl) (by kernel_rfl) (by kernel_rfl) (by kernel_rfl) (fun _ _ _ h => h) (Or.inl ⟨by rfl, fun W hSw => ?_⟩) (by assumption) ?_
  · clear hSw
    go_simp
  simp only [Act.put, List.setIfInBounds_toArray, List.set_cons_zero, List.set_cons_succ]
  refine wpAnyH_take (i := 1) (v := .pointer (some ⟨xb, 0, none⟩)) (by simp only [List.getElem?_toArray, List.getElem?_cons_zero, List.getElem?_cons_succ]; rfl) (by kernel_rfl) (by kernel_rfl) (by kernel_rfl) (fun _ _ _ h => h) (Or.inl ⟨by rfl, fun W hSw => ?_⟩) (by assumption) ?_
  · clear hSw
    go_simp
  simp only [Act.put, List.setIfInBounds_toArray, List.set_cons_zero, List.set_cons_succ]
  refine wpAnyH_take (i := 2) (v := .pointer (some ⟨xb, 0, none⟩)) (by simp only [List.getElem?_toArray, List.getElem?_cons_zero, List.getElem?_cons_succ]; rfl) (by kernel_rfl) (by kernel_rfl) (by kernel_rfl) (fun _ _ _ h => h) (Or.inl ⟨by rfl, fun W hSw => ?_⟩) (by assumption) ?_
  · clear hSw
    go_simp
  simp only [Act.put, List.setIfInBounds_toArray, List.set_cons_zero, List.set_cons_succ]
  refine wpAnyH_take (i := 3) (v := .pointer (some ⟨rb, 0, none⟩)) (by simp only [List.getElem?_toArray, List.getElem?_cons_zero, List.getElem?_cons_succ]; rfl) (by kernel_rfl) (by kernel_rfl) (by kernel_rfl) (fun _ _ _ h => h) (Or.inl ⟨by rfl, fun W hSw => ?_⟩) (by assumption) ?_
  · have hcw := hSw.1
    go_simp
  simp only [Act.put, List.setIfInBounds_toArray, List.set_cons_zero, List.set_cons_succ]
  refine wpAnyH_take (i := 4) (v := .pointer (some ⟨sb, 2, none⟩)) (by simp only [List.getElem?_toArray, List.getElem?_cons_zero, List.getElem?_cons_succ]; rfl) (by kernel_rfl) (by kernel_rfl) (by kernel_rfl) (fun _ _ _ h => h) (Or.inl ⟨by rfl, fun W hSw => ?_⟩) (by assumption) ?_
  · clear hSw
    go_simp
  simp only [Act.put, List.setIfInBounds_toArray, List.set_cons_zero, List.set_cons_succ]
  refine wpAnyH_take (i := 5) (v := .int .i64 (Of : Int)) (by simp only [List.getElem?_toArray, List.getElem?_cons_zero, List.getElem?_cons_succ]; rfl) (by kernel_rfl) (by kernel_rfl) (by kernel_rfl) (fun _ _ _ h => h) (Or.inl ⟨by rfl, fun W hSw => ?_⟩) (by assumption) ?_
  · have hcw := hSw.2.2
    go_simp
  simp only [Act.put, List.setIfInBounds_toArray, List.set_cons_zero, List.set_cons_succ]
  refine wpAnyH_take (i := 6) (v := .pointer (some ⟨sb, 1, none⟩)) (by simp only [List.getElem?_toArray, List.getElem?_cons_zero, List.getElem?_cons_succ]; rfl) (by kernel_rfl) (by kernel_rfl) (by kernel_rfl) (fun _ _ _ h => h) (Or.inl ⟨by rfl, fun W hSw => ?_⟩) (by assumption) ?_
  · clear hSw
    go_simp
  simp only [Act.put, List.setIfInBounds_toArray, List.set_cons_zero, List.set_cons_succ]
  refine wpAnyH_take (i := 7) (v := .int .i64 (Ln : Int)) (by simp only [List.getElem?_toArray, List.getElem?_cons_zero, List.getElem?_cons_succ]; rfl) (by kernel_rfl) (by kernel_rfl) (by kernel_rfl) (fun _ _ _ h => h) (Or.inl ⟨by rfl, fun W hSw => ?_⟩) (by assumption) ?_
  · have hcw := hSw.2.1
    go_simp
  simp only [Act.put, List.setIfInBounds_toArray, List.set_cons_zero, List.set_cons_succ]
  refine wpAnyH_ready (rs := [8]) (by kernel_rfl) (by simp) ?_
  refine AllReadyH.cons (by simp only [List.getElem?_toArray, List.getElem?_cons_zero, List.getElem?_cons_succ]; rfl) (fun K hK => ?_) AllReadyH.nil
  rw [if_pos (by rfl)]
  go_simp
  go_at_call 95
  have hbd : Below w2.heap.size w2 w2.drew := (Below.refl _ _).drew
  refine (HCo.out row2 _ (HE2.out.ring.below hbd)).mono ?_
  rintro e w3 ⟨v3, row3, rfl, hO3, hR3, hT3, hF3⟩
  obtain ⟨a3, c3, rfl⟩ := own_slice hO3
  have hT3 := (Turned.of_below hbd).trans hT3
  have HE3 := hid (HE2.out.turn hR3 hT3)
  have HX3 := hid (HX2.out.trans (TurnX.of_turned xb hT3))
  have HP3 := hid (HP2.out.turn (TurnX.of_turned xb hT3))
  have HO3 := hid (show w3.ownsRow w2.heap.size 5 1 (.slice a3 Ln c3) Ln ((copyS (st ++ ll.take Li) Of Ln).map bv) from hO3)
  have HS3 := hid (hT3.blk HS2.out HFar.out.1 HFar2.out)
  obtain ⟨la3, lc3, hx3, _⟩ := HE3.out.ex
  have x3 := hx3.cell (k := 0) rfl
  have s3 := HS3.out.cell (k := 1) rfl
  have s4 := HS3.out.cell (k := 2) rfl
  dsimp only
  refine hK.out _ _ ⟨x3, s3, s4⟩ (fun _ => ?_)
  clear hK K hO3 hR3 hT3 hF3 hbd hx3 HE2 HX2 HP2 HS2 HCo x2 s1 s2
  refine wpAnyH_ready (rs := [9]) (by kernel_rfl) (by simp) ?_
  refine AllReadyH.cons (by simp only [List.getElem?_toArray, List.getElem?_cons_zero, List.getElem?_cons_succ]; rfl) (fun K hK => ?_) AllReadyH.nil
  rw [if_pos (by rfl)]
  go_simp
  refine hK.out _ _ ⟨x3, s3, s4⟩ (fun _ => ?_)
  clear hK K
  refine wpAnyH_take (i := 10) (v := .slice a3 Ln c3) (by simp only [List.getElem?_toArray, List.getElem?_cons_zero, List.getElem?_cons_succ]; rfl) (by kernel_rfl) (by kernel_rfl) (by kernel_rfl) (fun _ _ _ h => h) (Or.inl ⟨by rfl, fun W hSw => ?_⟩) (by assumption) ?_
  · clear hSw
    go_simp
  simp only [Act.put, List.setIfInBounds_toArray, List.set_cons_zero, List.set_cons_succ]
  refine wpAnyH_take (i := 11) (v := .int .i64 0) (by simp only [List.getElem?_toArray, List.getElem?_cons_zero, List.getElem?_cons_succ]; rfl) (by kernel_rfl) (by kernel_rfl) (by kernel_rfl) (fun _ _ _ h => h) (Or.inl ⟨by rfl, fun W hSw => ?_⟩) (by assumption) ?_
  · clear hSw
    go_simp
  simp only [Act.put, List.setIfInBounds_toArray, List.set_cons_zero, List.set_cons_succ]
  refine wpAnyH_ready (rs := [12]) (by kernel_rfl) (by simp) ?_
  refine AllReadyH.cons (by simp only [List.getElem?_toArray, List.getElem?_cons_zero, List.getElem?_cons_succ]; rfl) (fun K hK => ?_) AllReadyH.nil
  rw [if_pos (by rfl)]
  go_simp
  refine hK.out _ _ ⟨x3, s3, s4⟩ (fun _ => ?_)
  clear hK K
  refine wpAnyH_ready (rs := [13]) (by kernel_rfl) (by simp) ?_
  refine AllReadyH.cons (by simp only [List.getElem?_toArray, List.getElem?_cons_zero, List.getElem?_cons_succ]; rfl) (fun K hK => ?_) AllReadyH.nil
  rw [if_pos (by rfl)]
  go_simp
  refine hK.out _ _ ⟨x3, s3, s4⟩ (fun _ => ?_)
  clear hK K
  refine wpAnyH_done (by kernel_rfl) ?_ _
  refine NoPanic.normal ?_
  clear x3 s3 s4
  go_wp2_with (at_builtin; refine Hid.out ?_)
  refine hid ?_
  obtain ⟨i0, hi0, hz0, hz1, hz2⟩ := info_parts Tryz.info_byte
  obtain ⟨p1, p2, p3, p4⟩ := HP3.out
  obtain ⟨n1, n2, n3, n4⟩ := HN.out
  obtain ⟨g3, e3, hc3, hcl3⟩ := own_at HO3.out (by omega)
  subst e3
  refine wpList_append_grows w3 rfl _ _ 22 rfl 5 i0 _ 1 1 Tryz.underlying22 hi0 hz0 hz1 hz2 rfl (by decide) a2 Li Li ((ll.take Li).map bv) rfl ?hnone ?hlo ?holds ⟨g3, 0, none⟩ Ln c3 ((copyS (st ++ ll.take Li) Of Ln).map bv) rfl ?hn ?hc ?hu ?hfull ?hb1 ?hb2 ?hK
  case hnone => intro e; have := p2 e; omega
  case hlo => rw [List.length_map, n4]; omega
  case holds =>
    intro b e j u hu
    obtain ⟨b2, o2, e2, _, e4⟩ := p3 j u hu
    rw [e] at e2
    simp only [Option.some.injEq] at e2
    subst e2
    rw [Go.WideShapes.add_plain]
    exact e4
  case hn => rw [List.length_map, copyS_length]; omega
  case hc =>
    intro j u hu
    obtain ⟨b2, o2, e2, _, e4⟩ := hcl3 j u hu
    cases e2
    rw [Go.WideShapes.add_plain]
    exact e4
  case hu =>
    intro u hu
    obtain ⟨x, _, rfl⟩ := List.mem_map.1 hu
    rfl
  case hfull => omega
  case hb1 => simp only [maxLen]; omega
  case hb2 => omega
  case hK =>
    intro v' w4 hown hg
    have hb4 : Below w3.heap.size w3 w4 := (Below.refl _ _).grown hg (Nat.le_refl _) (fun k e => by cases e)
    have HE4 := hid (HE3.out.below hb4)
    have HX4 := hid (HX3.out.trans (TurnX.of_below hb4))
    have HO4 := hid (own_le hown HX3.out.size)
    have HFv := hid (fun k (hk : v'.ownBlock = some k) => show k ≠ rb ∧ k ≠ xb ∧ some k ≠ row3 from by
      have h1 := (hown.lt k hk).1
      have h2 := HE3.out.ring.far h1
      refine ⟨h2.1, ?_, h2.2⟩
      obtain ⟨la, lc, hx, _⟩ := HE3.out.ex
      have := hx.lt
      omega)
    rw [← List.map_append] at HO4
    clear hown hg hb4 hi0 hz0 hz1 hz2 p1 p2 p3 p4 n1 n2 n3 n4 hcl3 hc3
    go_wp2
    go_ret
    exact ⟨v', row3, rfl, HO4.out, HE4.out, HX4.out, HFv.out⟩
end Go.Proofs.YtlgablepckmogaaGreat
