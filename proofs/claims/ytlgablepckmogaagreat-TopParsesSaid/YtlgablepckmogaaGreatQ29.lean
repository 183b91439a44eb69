/-
  The walks of layer 33 (best): none, the cost of a choice, the least of many.
-/
import Derived.Test.YtlgablepckmogaaGreatQ25
import Derived.Test.YtlgablepckmogaaGreatQ26
import Derived.Test.YtlgablepckmogaaGreatQ28
import Derived.LoopIn
import Derived.WalkMore
namespace Go.Proofs.YtlgablepckmogaaGreat
open Go.RowKit Go.Port
attribute [local go_sem] Oper.semAt_some
theorem numC_zero (C : Nat → List Int) : ∃ x, numC C 1 0 = some x := by
  unfold numC codeS
  rw [if_pos (by unfold eleast ebelow; simp)]
  exact ⟨_, rfl⟩
set_option maxRecDepth 100000 in
theorem bnone_ok (bs : List UInt8) (A : Nat) (Wd D : Int) (F M : Nat) (C : Nat → List Int) (w : World) (hf : FdAt 50 79 bs A Wd D F w) (hp : PrAt w M C) :
    Calls Tryz.prog 108 #[.pointer (some ⟨F, 0, none⟩), .pointer (some ⟨M, 0, none⟩)] w (RetV w (.bool false)) := by
  obtain ⟨x, hx⟩ := numC_zero C
  have h := prll_any w M C hp 0
  rw [hx] at h
  have HLl := hid h
  have HWi := hid (fun W (hb : Below w.heap.size w W) => cwindow_any bs A Wd D F W (hf.low hb))
  have hW := hf.hW
  have hw0 : (Wd == 0) = false := by rw [beq_eq_false_iff_ne]; omega
  clear hf hp hx h hW
  go_enter Tryz.func108, Tryz.ntmps108
  go_wp2_with fail
  refine HLl.out.mono ?_
  rintro e w1 ⟨rfl, hb1⟩
  have HB1 := hid hb1
  clear hb1
  go_wp2_with (go_at_call 139; refine (HWi.out _ HB1.out).mono ?_; rintro e w' ⟨rfl, rfl⟩)
  go_ret
  exact ⟨rfl, HB1.out⟩
/-- The table while it is made, as the closure that weighs a choice sees it. -/
structure TabAt (w : World) (M : Nat) (C : Nat → List Int) (q3 q6 q7 q4 T gc gf : Nat) (a : Option Addr) (cd : Nat) (data : List UInt8) (i : Nat) (cs : List Int) : Prop where
  pr : PrAt w M C
  p : Blk w q3 [.pointer (some ⟨M, 0, none⟩)] 88
  d : Blk w q6 [.slice a data.length cd] 22
  dc : Cs w a (data.map bv)
  i : Blk w q7 [.int .i64 (i : Int)] 3
  t : Blk w q4 [.pointer (some ⟨T, 0, none⟩)] 160
  row : Blk w T [.slice (some ⟨gc, 0, none⟩) (data.length + 1) (data.length + 1), .slice (some ⟨gf, 0, none⟩) data.length data.length] 166
  c : Blk w gc (cs.map iv) 3
theorem TabAt.low {w w' : World} {M : Nat} {C : Nat → List Int} {q3 q6 q7 q4 T gc gf : Nat} {a : Option Addr} {cd : Nat} {data : List UInt8} {i : Nat} {cs : List Int} (h : TabAt w M C q3 q6 q7 q4 T gc gf a cd data i cs) (hb : Below w.heap.size w w') : TabAt w' M C q3 q6 q7 q4 T gc gf a cd data i cs :=
  ⟨h.pr.low hb, h.p.below hb h.p.lt, h.d.below hb h.d.lt, h.dc.low hb, h.i.below hb h.i.lt, h.t.below hb h.t.lt, h.row.below hb h.row.lt, h.c.below hb h.c.lt⟩
set_option maxRecDepth 1000000 in
set_option maxHeartbeats 4000000 in
theorem btab_lit (w : World) (M : Nat) (C : Nat → List Int) (q3 q6 q7 q4 T gc gf : Nat) (a : Option Addr) (cd : Nat) (data : List UInt8) (i : Nat) (cs : List Int) (h : TabAt w M C q3 q6 q7 q4 T gc gf a cd data i cs) (hn : data.length ≤ 1000000) (hcl : cs.length = data.length + 1) (hcb : ∀ x ∈ cs, 0 ≤ x ∧ x ≤ 1000000000000) (hi : i < data.length) (lit off : Int) :
    Calls Tryz.prog 110 #[.agg #[.int .i64 lit, .int .i64 0, .int .i64 off], .pointer (some ⟨q3, 0, none⟩), .pointer (some ⟨q6, 0, none⟩), .pointer (some ⟨q7, 0, none⟩), .pointer (some ⟨q4, 0, none⟩)] w (RetV w (.int .i64 (litsC C [data.getD i 0] + cs.getD (i + 1) 0))) := by
  obtain ⟨b, hb⟩ : ∃ b, data[i]? = some b := ⟨data[i], by simp [hi]⟩
  have hbD : data.getD i 0 = b := by rw [List.getD_eq_getElem?_getD, hb]; rfl
  obtain ⟨x, hx⟩ : ∃ x, cs[i + 1]? = some x := ⟨cs[i + 1]'(by omega), by simp⟩
  have hxD : cs.getD (i + 1) 0 = x := by rw [List.getD_eq_getElem?_getD, hx]; rfl
  have hxb := hcb x (List.mem_of_getElem? hx)
  have hlb := lit_bounds C h.pr.ok b
  have hw1 : IntKind.i64.wrap ((i : Int) + 1) = (i : Int) + 1 := by rw [IntKind.wrap_i64]; omega
  have hw2 : IntKind.i64.wrap (litsC C [b] + x) = litsC C [b] + x := by rw [IntKind.wrap_i64]; omega
  have hi1 : ¬ ((i : Int) + 1 < 0) := by omega
  rw [hbD, hxD]
  have hbm : (data.map bv)[i]? = some (bv b) := by rw [List.getElem?_map, hb]; rfl
  obtain ⟨bl, o, rfl, hbl, _⟩ := h.dc i (bv b) hbm
  have hcx : (cs.map iv)[i + 1]? = some (.int .i64 x) := by rw [List.getElem?_map, hx]; rfl
  have HX := hid (fun W (hb : Below (w.heap.size + 1) (w.alloc (.cells #[.int .i64 lit, .int .i64 0, .int .i64 off] 43)) W) => (h.low ((below_new w _).trans (hb.mono (Nat.le_succ _)))))
  have HDc := hid (fun W (hW : TabAt W M C q3 q6 q7 q4 T gc gf (some ⟨bl, o, none⟩) cd data i cs) => show W.cell? ⟨bl, o + i, none⟩ = some (bv b) from by
    obtain ⟨_, _, e, _, hc⟩ := hW.dc i (bv b) hbm
    cases e
    exact hc)
  have HBl := hid (below_new w (.cells #[.int .i64 lit, .int .i64 0, .int .i64 off] 43))
  have hS := Blk.new w [.int .i64 lit, .int .i64 0, .int .i64 off] 43
  have s1 := hS.cell (k := 1) rfl
  have hsz : (w.alloc (.cells #[.int .i64 lit, .int .i64 0, .int .i64 off] 43)).heap.size = w.heap.size + 1 := by simp
  have HSz := hid hsz
  have HH := hid h.pr.ok
  clear h hcb hbD hxD hb hx hbm hS hsz
  go_enter Tryz.func110, Tryz.ntmps110
  go_wp2_with fail
  generalize hw1 : w.alloc (.cells #[.int .i64 lit, .int .i64 0, .int .i64 off] 43) = w1 at *
  clear s1 hw1
  refine wp_region_noPanic ?_
  refine wp_region_held_drew (S := (fun W' => Below (w.heap.size + 1) w1 W')) (by kernel_rfl) (show Below (w.heap.size + 1) w1 w1.drew from (Below.refl _ _).drew) (fun hHeld => ?_)
  refine wpAnyH_take (i := 0) (v := .pointer (some ⟨M, 0, none⟩)) (by simp only [List.getElem?_toArray, List.getElem?_cons_zero]; rfl) (by kernel_rfl) (by kernel_rfl) (by kernel_rfl) (fun _ _ _ h => h) (Or.inl ⟨by rfl, fun W hSw => ?_⟩) (by assumption) ?_
  · have hT := HX.out W hSw
    clear hSw
    have cc := hT.p.cell (k := 0) rfl
    clear hT
    go_simp
  simp only [Act.put, List.setIfInBounds_toArray, List.set_cons_zero, List.set_cons_succ]
  refine wpAnyH_take (i := 1) (v := .slice (some ⟨bl, o, none⟩) data.length cd) (by simp only [List.getElem?_toArray, List.getElem?_cons_zero, List.getElem?_cons_succ]; rfl) (by kernel_rfl) (by kernel_rfl) (by kernel_rfl) (fun _ _ _ h => h) (Or.inl ⟨by rfl, fun W hSw => ?_⟩) (by assumption) ?_
  · have hT := HX.out W hSw
    clear hSw
    have cc := hT.d.cell (k := 0) rfl
    clear hT
    go_simp
  simp only [Act.put, List.setIfInBounds_toArray, List.set_cons_zero, List.set_cons_succ]
  refine wpAnyH_take (i := 2) (v := .int .i64 (i : Int)) (by simp only [List.getElem?_toArray, List.getElem?_cons_zero, List.getElem?_cons_succ]; rfl) (by kernel_rfl) (by kernel_rfl) (by kernel_rfl) (fun _ _ _ h => h) (Or.inl ⟨by rfl, fun W hSw => ?_⟩) (by assumption) ?_
  · have hT := HX.out W hSw
    clear hSw
    have cc := hT.i.cell (k := 0) rfl
    clear hT
    go_simp
  simp only [Act.put, List.setIfInBounds_toArray, List.set_cons_zero, List.set_cons_succ]
  refine wpAnyH_take (i := 3) (v := .pointer (some ⟨bl, o + i, none⟩)) (by simp only [List.getElem?_toArray, List.getElem?_cons_zero, List.getElem?_cons_succ]; rfl) (by kernel_rfl) (by kernel_rfl) (by kernel_rfl) (fun _ _ _ h => h) (Or.inl ⟨by rfl, fun W hSw => ?_⟩) (by assumption) ?_
  · clear hSw
    go_simp
  simp only [Act.put, List.setIfInBounds_toArray, List.set_cons_zero, List.set_cons_succ]
  refine wpAnyH_take (i := 4) (v := bv b) (by simp only [List.getElem?_toArray, List.getElem?_cons_zero, List.getElem?_cons_succ]; rfl) (by kernel_rfl) (by kernel_rfl) (by kernel_rfl) (fun _ _ _ h => h) (Or.inl ⟨by rfl, fun W hSw => ?_⟩) (by assumption) ?_
  · have cc := HDc.out W (HX.out W hSw)
    clear hSw
    go_simp
  simp only [Act.put, List.setIfInBounds_toArray, List.set_cons_zero, List.set_cons_succ]
  refine wpAnyH_take (i := 7) (v := .pointer (some ⟨T, 0, none⟩)) (by simp only [List.getElem?_toArray, List.getElem?_cons_zero, List.getElem?_cons_succ]; rfl) (by kernel_rfl) (by kernel_rfl) (by kernel_rfl) (fun _ _ _ h => h) (Or.inl ⟨by rfl, fun W hSw => ?_⟩) (by assumption) ?_
  · have hT := HX.out W hSw
    clear hSw
    have cc := hT.t.cell (k := 0) rfl
    clear hT
    go_simp
  simp only [Act.put, List.setIfInBounds_toArray, List.set_cons_zero, List.set_cons_succ]
  refine wpAnyH_take (i := 8) (v := .pointer (some ⟨T, 0, none⟩)) (by simp only [List.getElem?_toArray, List.getElem?_cons_zero, List.getElem?_cons_succ]; rfl) (by kernel_rfl) (by kernel_rfl) (by kernel_rfl) (fun _ _ _ h => h) (Or.inl ⟨by rfl, fun W hSw => ?_⟩) (by assumption) ?_
  · have hT := HX.out W hSw
    clear hSw
    have cc := hT.row.lt
    clear hT
    go_simp
  simp only [Act.put, List.setIfInBounds_toArray, List.set_cons_zero, List.set_cons_succ]
  refine wpAnyH_take (i := 9) (v := .pointer (some ⟨T, 0, none⟩)) (by simp only [List.getElem?_toArray, List.getElem?_cons_zero, List.getElem?_cons_succ]; rfl) (by kernel_rfl) (by kernel_rfl) (by kernel_rfl) (fun _ _ _ h => h) (Or.inl ⟨by rfl, fun W hSw => ?_⟩) (by assumption) ?_
  · clear hSw
    go_simp
  simp only [Act.put, List.setIfInBounds_toArray, List.set_cons_zero, List.set_cons_succ]
  refine wpAnyH_take (i := 10) (v := .pointer (some ⟨T, 0, none⟩)) (by simp only [List.getElem?_toArray, List.getElem?_cons_zero, List.getElem?_cons_succ]; rfl) (by kernel_rfl) (by kernel_rfl) (by kernel_rfl) (fun _ _ _ h => h) (Or.inl ⟨by rfl, fun W hSw => ?_⟩) (by assumption) ?_
  · clear hSw
    go_simp
  simp only [Act.put, List.setIfInBounds_toArray, List.set_cons_zero, List.set_cons_succ]
  refine wpAnyH_take (i := 11) (v := .slice (some ⟨gc, 0, none⟩) (data.length + 1) (data.length + 1)) (by simp only [List.getElem?_toArray, List.getElem?_cons_zero, List.getElem?_cons_succ]; rfl) (by kernel_rfl) (by kernel_rfl) (by kernel_rfl) (fun _ _ _ h => h) (Or.inl ⟨by rfl, fun W hSw => ?_⟩) (by assumption) ?_
  · have hT := HX.out W hSw
    clear hSw
    have cc := hT.row.cell (k := 0) rfl
    clear hT
    go_simp
  simp only [Act.put, List.setIfInBounds_toArray, List.set_cons_zero, List.set_cons_succ]
  refine wpAnyH_take (i := 12) (v := .int .i64 (i : Int)) (by simp only [List.getElem?_toArray, List.getElem?_cons_zero, List.getElem?_cons_succ]; rfl) (by kernel_rfl) (by kernel_rfl) (by kernel_rfl) (fun _ _ _ h => h) (Or.inl ⟨by rfl, fun W hSw => ?_⟩) (by assumption) ?_
  · have hT := HX.out W hSw
    clear hSw
    have cc := hT.i.cell (k := 0) rfl
    clear hT
    go_simp
  simp only [Act.put, List.setIfInBounds_toArray, List.set_cons_zero, List.set_cons_succ]
  refine wpAnyH_take (i := 13) (v := .int .i64 ((i : Int) + 1)) (by simp only [List.getElem?_toArray, List.getElem?_cons_zero, List.getElem?_cons_succ]; rfl) (by kernel_rfl) (by kernel_rfl) (by kernel_rfl) (fun _ _ _ h => h) (Or.inl ⟨by rfl, fun W hSw => ?_⟩) (by assumption) ?_
  · clear hSw
    go_simp
  simp only [Act.put, List.setIfInBounds_toArray, List.set_cons_zero, List.set_cons_succ]
  refine wpAnyH_take (i := 14) (v := .pointer (some ⟨gc, i + 1, none⟩)) (by simp only [List.getElem?_toArray, List.getElem?_cons_zero, List.getElem?_cons_succ]; rfl) (by kernel_rfl) (by kernel_rfl) (by kernel_rfl) (fun _ _ _ h => h) (Or.inl ⟨by rfl, fun W hSw => ?_⟩) (by assumption) ?_
  · clear hSw
    go_simp
  simp only [Act.put, List.setIfInBounds_toArray, List.set_cons_zero, List.set_cons_succ]
  refine wpAnyH_take (i := 15) (v := .int .i64 x) (by simp only [List.getElem?_toArray, List.getElem?_cons_zero, List.getElem?_cons_succ]; rfl) (by kernel_rfl) (by kernel_rfl) (by kernel_rfl) (fun _ _ _ h => h) (Or.inl ⟨by rfl, fun W hSw => ?_⟩) (by assumption) ?_
  · have hT := HX.out W hSw
    clear hSw
    have cc := hT.c.cell (k := i + 1) hcx
    clear hT
    go_simp
  simp only [Act.put, List.setIfInBounds_toArray, List.set_cons_zero, List.set_cons_succ]
  refine wpAnyH_ready (rs := [5]) (by kernel_rfl) (by simp) ?_
  refine AllReadyH.cons (by simp only [List.getElem?_toArray, List.getElem?_cons_zero, List.getElem?_cons_succ]; rfl) (fun K hK => ?_) AllReadyH.nil
  rw [if_pos (by rfl)]
  go_simp
  refine hK.out _ _ ?_ (fun _ => ?_)
  · exact ((Below.refl (w.heap.size + 1) w1).drew).alloc (by simp [HSz.out]) _
  clear hK K
  refine wpAnyH_ready (rs := [6]) (by kernel_rfl) (by simp) ?_
  refine AllReadyH.cons (by simp only [List.getElem?_toArray, List.getElem?_cons_zero, List.getElem?_cons_succ]; rfl) (fun K hK => ?_) AllReadyH.nil
  rw [if_pos (by rfl)]
  go_simp
  go_at_call 111
  refine (prlits_any _ M C (HX.out _ (((Below.refl (w.heap.size + 1) w1).drew).alloc (by simp [HSz.out]) _)).pr (some ⟨w1.heap.size, 0, none⟩) 1 [b] (by simp) (by
    intro j u hu
    have hN := Blk.new w1.drew [bv b] 5
    cases j with
    | succ j => simp at hu
    | zero =>
      simp only [List.map_cons, List.map_nil, List.getElem?_cons_zero, Option.some.injEq] at hu
      subst hu
      exact ⟨w1.heap.size, 0, rfl, hN.lt, hN.cell (k := 0) rfl⟩)).mono ?_
  rintro e w2 ⟨rfl, rfl⟩
  dsimp only
  refine hK.out _ _ ?_ (fun _ => ?_)
  · exact ((Below.refl (w.heap.size + 1) w1).drew).alloc (by simp [HSz.out]) _
  clear hK K
  refine wpAnyH_take (i := 16) (v := .int .i64 (litsC C [b] + x)) (by simp only [List.getElem?_toArray, List.getElem?_cons_zero, List.getElem?_cons_succ]; rfl) (by kernel_rfl) (by kernel_rfl) (by kernel_rfl) (fun _ _ _ h => h) (Or.inl ⟨by rfl, fun W hSw => ?_⟩) (by assumption) ?_
  · clear hSw
    go_simp
  simp only [Act.put, List.setIfInBounds_toArray, List.set_cons_zero, List.set_cons_succ]
  refine wpAnyH_ready (rs := [17]) (by kernel_rfl) (by simp) ?_
  refine AllReadyH.cons (by simp only [List.getElem?_toArray, List.getElem?_cons_zero, List.getElem?_cons_succ]; rfl) (fun K hK => ?_) AllReadyH.nil
  rw [if_pos (by rfl)]
  go_simp
  refine hK.out _ _ ?_ (fun _ => ?_)
  · exact ((Below.refl (w.heap.size + 1) w1).drew).alloc (by simp [HSz.out]) _
  clear hK K
  refine wpAnyH_done (by kernel_rfl) ?_ _
  refine NoPanic.normal ?_
  go_wp2
  go_ret
  exact ⟨rfl, HBl.out.trans ((((Below.refl (w.heap.size + 1) w1).drew).alloc (by simp [HSz.out]) _).mono (Nat.le_succ _))⟩
set_option maxRecDepth 1000000 in
set_option maxHeartbeats 4000000 in
theorem btab_mat (w : World) (M : Nat) (C : Nat → List Int) (q3 q6 q7 q4 T gc gf : Nat) (a : Option Addr) (cd : Nat) (data : List UInt8) (i : Nat) (cs : List Int) (h : TabAt w M C q3 q6 q7 q4 T gc gf a cd data i cs) (hn : data.length ≤ 1000000) (hcl : cs.length = data.length + 1) (hcb : ∀ x ∈ cs, 0 ≤ x ∧ x ≤ 1000000000000) (hi : i < data.length) (lit off : Int) (L : Nat) (hL : 1 ≤ L) (hiL : i + L ≤ data.length) (ho : 1 ≤ off ∧ off ≤ 134217728) :
    Calls Tryz.prog 110 #[.agg #[.int .i64 lit, .int .i64 (L : Int), .int .i64 off], .pointer (some ⟨q3, 0, none⟩), .pointer (some ⟨q6, 0, none⟩), .pointer (some ⟨q7, 0, none⟩), .pointer (some ⟨q4, 0, none⟩)] w (RetV w (.int .i64 ((stepC C L off).getD 0 + cs.getD (i + L) 0))) := by
  obtain ⟨x, hx⟩ : ∃ x, cs[i + L]? = some x := ⟨cs[i + L]'(by omega), by simp⟩
  have hxD : cs.getD (i + L) 0 = x := by rw [List.getD_eq_getElem?_getD, hx]; rfl
  have hxb := hcb x (List.mem_of_getElem? hx)
  have hms : ∃ y z : Int, (∀ W, Below w.heap.size w W → Calls Tryz.prog 112 #[.pointer (some ⟨M, 0, none⟩), .int .i64 (L : Int), .int .i64 off] W (RetV W (.tuple #[.int .i64 y, .int .i64 z]))) ∧ (stepC C L off).getD 0 = y ∧ -65536 ≤ y ∧ y ≤ 65536 := by
    have hm := fun W (hb : Below w.heap.size w W) => prma_any W M C (h.low hb).pr (L : Int) off (by omega) (by omega) (by omega) (by omega)
    cases hs : stepC C L off with
    | none => rw [hs] at hm; exact ⟨0, 2, hm, rfl, by decide, by decide⟩
    | some y => rw [hs] at hm; exact ⟨y, 0, hm, rfl, stepC_bounds h.pr.ok hs⟩
  obtain ⟨y, z, hyz, hyD, hy1, hy2⟩ := hms
  rw [hxD, hyD]
  have hw1 : IntKind.i64.wrap ((i : Int) + (L : Int)) = (i : Int) + (L : Int) := by rw [IntKind.wrap_i64]; omega
  have hw2 : IntKind.i64.wrap (y + x) = y + x := by rw [IntKind.wrap_i64]; omega
  have hi1 : ¬ ((i : Int) + (L : Int) < 0) := by omega
  have hi2 : (i : Int) + (L : Int) < (data.length : Int) + 1 := by omega
  have hi3 : ((i : Int) + (L : Int)).toNat = i + L := by omega
  have hcx : (cs.map iv)[i + L]? = some (.int .i64 x) := by rw [List.getElem?_map, hx]; rfl
  have HX := hid (fun W (hb : Below w.heap.size w W) => h.low hb)
  have HMa := hid hyz
  have hB1 := below_new w (.cells #[.int .i64 lit, .int .i64 (L : Int), .int .i64 off] 43)
  have HBl := hid hB1
  have hS := Blk.new w [.int .i64 lit, .int .i64 (L : Int), .int .i64 off] 43
  have s1 := hS.cell (k := 1) rfl
  have s2 := hS.cell (k := 2) rfl
  have HS := hid hS
  have hL0 : ¬ (L : Int) = 0 := by omega
  have hLz : ¬ L = 0 := by omega
  have cp := (h.low hB1).p.cell (k := 0) rfl
  clear h hcb hxD hx hyz hyD hS hB1
  go_enter Tryz.func110, Tryz.ntmps110
  go_wp2_with fail
  generalize w.alloc (.cells #[.int .i64 lit, .int .i64 (L : Int), .int .i64 off] 43) = w1 at *
  refine (HMa.out _ HBl.out).mono ?_
  rintro e w2 ⟨rfl, hb2⟩
  have HB2 := hid (HBl.out.trans (hb2.mono HBl.out.size))
  have HS2 := hid (HS.out.below hb2 HS.out.lt)
  clear hb2 s1 s2 cp
  go_wp2_with fail
  refine wp_region_noPanic ?_
  refine wp_region_held_drew (S := (fun W' => Below w.heap.size w W' ∧ Blk W' w.heap.size [.int .i64 lit, .int .i64 (L : Int), .int .i64 off] 43)) (by kernel_rfl) ⟨HB2.out.drew, HS2.out⟩ (fun hHeld => ?_)
  refine wpAnyH_take (i := 0) (v := .int .i64 y) (by simp only [List.getElem?_toArray, List.getElem?_cons_zero]; rfl) (by kernel_rfl) (by kernel_rfl) (by kernel_rfl) (fun _ _ _ h => h) (Or.inl ⟨by rfl, fun W hSw => ?_⟩) (by assumption) ?_
  · clear hSw
    go_simp
  simp only [Act.put, List.setIfInBounds_toArray, List.set_cons_zero, List.set_cons_succ]
  refine wpAnyH_take (i := 1) (v := .pointer (some ⟨T, 0, none⟩)) (by simp only [List.getElem?_toArray, List.getElem?_cons_zero, List.getElem?_cons_succ]; rfl) (by kernel_rfl) (by kernel_rfl) (by kernel_rfl) (fun _ _ _ h => h) (Or.inl ⟨by rfl, fun W hSw => ?_⟩) (by assumption) ?_
  · have hT := HX.out W hSw.1
    clear hSw
    have cc := hT.t.cell (k := 0) rfl
    clear hT
    go_simp
  simp only [Act.put, List.setIfInBounds_toArray, List.set_cons_zero, List.set_cons_succ]
  refine wpAnyH_take (i := 2) (v := .pointer (some ⟨T, 0, none⟩)) (by simp only [List.getElem?_toArray, List.getElem?_cons_zero, List.getElem?_cons_succ]; rfl) (by kernel_rfl) (by kernel_rfl) (by kernel_rfl) (fun _ _ _ h => h) (Or.inl ⟨by rfl, fun W hSw => ?_⟩) (by assumption) ?_
  · have hT := HX.out W hSw.1
    clear hSw
    have cc := hT.row.lt
    clear hT
    go_simp
  simp only [Act.put, List.setIfInBounds_toArray, List.set_cons_zero, List.set_cons_succ]
  refine wpAnyH_take (i := 3) (v := .pointer (some ⟨T, 0, none⟩)) (by simp only [List.getElem?_toArray, List.getElem?_cons_zero, List.getElem?_cons_succ]; rfl) (by kernel_rfl) (by kernel_rfl) (by kernel_rfl) (fun _ _ _ h => h) (Or.inl ⟨by rfl, fun W hSw => ?_⟩) (by assumption) ?_
  · clear hSw
    go_simp
  simp only [Act.put, List.setIfInBounds_toArray, List.set_cons_zero, List.set_cons_succ]
  refine wpAnyH_take (i := 4) (v := .pointer (some ⟨T, 0, none⟩)) (by simp only [List.getElem?_toArray, List.getElem?_cons_zero, List.getElem?_cons_succ]; rfl) (by kernel_rfl) (by kernel_rfl) (by kernel_rfl) (fun _ _ _ h => h) (Or.inl ⟨by rfl, fun W hSw => ?_⟩) (by assumption) ?_
  · clear hSw
    go_simp
  simp only [Act.put, List.setIfInBounds_toArray, List.set_cons_zero, List.set_cons_succ]
  refine wpAnyH_take (i := 5) (v := .slice (some ⟨gc, 0, none⟩) (data.length + 1) (data.length + 1)) (by simp only [List.getElem?_toArray, List.getElem?_cons_zero, List.getElem?_cons_succ]; rfl) (by kernel_rfl) (by kernel_rfl) (by kernel_rfl) (fun _ _ _ h => h) (Or.inl ⟨by rfl, fun W hSw => ?_⟩) (by assumption) ?_
  · have hT := HX.out W hSw.1
    clear hSw
    have cc := hT.row.cell (k := 0) rfl
    clear hT
    go_simp
  simp only [Act.put, List.setIfInBounds_toArray, List.set_cons_zero, List.set_cons_succ]
  refine wpAnyH_take (i := 6) (v := .int .i64 (i : Int)) (by simp only [List.getElem?_toArray, List.getElem?_cons_zero, List.getElem?_cons_succ]; rfl) (by kernel_rfl) (by kernel_rfl) (by kernel_rfl) (fun _ _ _ h => h) (Or.inl ⟨by rfl, fun W hSw => ?_⟩) (by assumption) ?_
  · have hT := HX.out W hSw.1
    clear hSw
    have cc := hT.i.cell (k := 0) rfl
    clear hT
    go_simp
  simp only [Act.put, List.setIfInBounds_toArray, List.set_cons_zero, List.set_cons_succ]
  refine wpAnyH_take (i := 7) (v := .pointer (some ⟨w.heap.size, 1, none⟩)) (by simp only [List.getElem?_toArray, List.getElem?_cons_zero, List.getElem?_cons_succ]; rfl) (by kernel_rfl) (by kernel_rfl) (by kernel_rfl) (fun _ _ _ h => h) (Or.inl ⟨by rfl, fun W hSw => ?_⟩) (by assumption) ?_
  · clear hSw
    go_simp
  simp only [Act.put, List.setIfInBounds_toArray, List.set_cons_zero, List.set_cons_succ]
  refine wpAnyH_take (i := 8) (v := .int .i64 (L : Int)) (by simp only [List.getElem?_toArray, List.getElem?_cons_zero, List.getElem?_cons_succ]; rfl) (by kernel_rfl) (by kernel_rfl) (by kernel_rfl) (fun _ _ _ h => h) (Or.inl ⟨by rfl, fun W hSw => ?_⟩) (by assumption) ?_
  · have cc := hSw.2.cell (k := 1) rfl
    clear hSw
    go_simp
  simp only [Act.put, List.setIfInBounds_toArray, List.set_cons_zero, List.set_cons_succ]
  refine wpAnyH_take (i := 9) (v := .int .i64 ((i : Int) + (L : Int))) (by simp only [List.getElem?_toArray, List.getElem?_cons_zero, List.getElem?_cons_succ]; rfl) (by kernel_rfl) (by kernel_rfl) (by kernel_rfl) (fun _ _ _ h => h) (Or.inl ⟨by rfl, fun W hSw => ?_⟩) (by assumption) ?_
  · clear hSw
    go_simp
  simp only [Act.put, List.setIfInBounds_toArray, List.set_cons_zero, List.set_cons_succ]
  refine wpAnyH_take (i := 10) (v := .pointer (some ⟨gc, i + L, none⟩)) (by simp only [List.getElem?_toArray, List.getElem?_cons_zero, List.getElem?_cons_succ]; rfl) (by kernel_rfl) (by kernel_rfl) (by kernel_rfl) (fun _ _ _ h => h) (Or.inl ⟨by rfl, fun W hSw => ?_⟩) (by assumption) ?_
  · clear hSw
    go_simp
  simp only [Act.put, List.setIfInBounds_toArray, List.set_cons_zero, List.set_cons_succ]
  refine wpAnyH_take (i := 11) (v := .int .i64 x) (by simp only [List.getElem?_toArray, List.getElem?_cons_zero, List.getElem?_cons_succ]; rfl) (by kernel_rfl) (by kernel_rfl) (by kernel_rfl) (fun _ _ _ h => h) (Or.inl ⟨by rfl, fun W hSw => ?_⟩) (by assumption) ?_
  · have hT := HX.out W hSw.1
    clear hSw
    have cc := hT.c.cell (k := i + L) hcx
    clear hT
    go_simp
  simp only [Act.put, List.setIfInBounds_toArray, List.set_cons_zero, List.set_cons_succ]
  refine wpAnyH_take (i := 12) (v := .int .i64 (y + x)) (by simp only [List.getElem?_toArray, List.getElem?_cons_zero, List.getElem?_cons_succ]; rfl) (by kernel_rfl) (by kernel_rfl) (by kernel_rfl) (fun _ _ _ h => h) (Or.inl ⟨by rfl, fun W hSw => ?_⟩) (by assumption) ?_
  · clear hSw
    go_simp
  simp only [Act.put, List.setIfInBounds_toArray, List.set_cons_zero, List.set_cons_succ]
  refine wpAnyH_ready (rs := [13]) (by kernel_rfl) (by simp) ?_
  refine AllReadyH.cons (by simp only [List.getElem?_toArray, List.getElem?_cons_zero, List.getElem?_cons_succ]; rfl) (fun K hK => ?_) AllReadyH.nil
  rw [if_pos (by rfl)]
  go_simp
  refine hK.out _ _ ⟨HB2.out.drew, HS2.out⟩ (fun _ => ?_)
  clear hK K
  refine wpAnyH_done (by kernel_rfl) ?_ _
  refine NoPanic.normal ?_
  go_wp2
  go_ret
  exact ⟨rfl, HB2.out.drew⟩
end Go.Proofs.YtlgablepckmogaaGreat
