/-
  The walks of the reference of layer 29: New.
-/
import Derived.Test.YtngphgdoolcpcaaGrB
import Derived.Test.YtngphgdoolcpcaaChC
namespace Go.Proofs.Ytngphgdoolcpcaa
open Go.RowKit Go.Port

set_option maxRecDepth 100000 in
set_option maxHeartbeats 4000000 in
theorem rnew_bad (a1 a2 : Option Addr) (n1 n2 c1 c2 : Nat) (W dep : Int) (w : World) (h : finderOk n2 W dep = false) :
    Calls Try.prog 27 #[.slice a1 n1 c1, .slice a2 n2 c2, .int .i64 W, .int .i64 dep] w (RetV w (.tuple #[fdv none 0 0 0 0 0, .int .i64 2])) := by
  have hc : W < 1 ∨ (1 ≤ W ∧ 134217728 < W) ∨ (1 ≤ W ∧ W ≤ 134217728 ∧ dep < 1) ∨ (1 ≤ W ∧ W ≤ 134217728 ∧ 1 ≤ dep ∧ 4096 < dep) ∨ (1 ≤ W ∧ W ≤ 134217728 ∧ 1 ≤ dep ∧ dep ≤ 4096 ∧ 131072 < (n2 : Int)) := by
    unfold finderOk at h
    simp only [Bool.and_eq_false_iff, decide_eq_false_iff_not] at h
    omega
  clear h
  have hX := Blk.new w (fdc none 0 0 0 0 0) 25
  have hB := below_new w (.cells (fdc none 0 0 0 0 0).toArray 25)
  unfold fdc at hX hB
  have HB := hid hB
  have z0 := hX.frozen 0
  have z1 := hX.frozen 1
  have z2 := hX.frozen 2
  have z3 := hX.frozen 3
  have p0 := hX.cell (k := 0) rfl
  have p1 := hX.cell (k := 1) rfl
  have p2 := hX.cell (k := 2) rfl
  have p3 := hX.cell (k := 3) rfl
  unfold fdv
  clear hX hB
  go_enter Try.func27, Try.ntmps27
  rcases hc with h | ⟨h1, h2⟩ | ⟨h1, h2, h3⟩ | ⟨h1, h2, h3, h4⟩ | ⟨h1, h2, h3, h4, h5⟩
  all_goals
    go_wp2
    refine bodyPost_ret (v := .tuple #[.agg #[.slice none 0 0, .int .i64 0, .int .i64 0, .int .i64 0], .int .i64 2]) (by simp [results, Try.results27, go_sem]) rfl ?_
    exact ⟨rfl, HB.out⟩

set_option maxRecDepth 100000 in
set_option maxHeartbeats 4000000 in
theorem rnew_ok (a1 a2 : Option Addr) (c1 c2 : Nat) (A D : List UInt8) (W dep : Int) (w : World) (hA : A.length ≤ 800000) (hD : (D.length : Int) ≤ 131072) (h1 : A.length ≤ c1) (h2 : D.length ≤ c2) (h3 : a1 = none → c1 = 0) (h4 : a2 = none → c2 = 0)
    (hc1 : CellsAt w a1 (A.map bv)) (hc2 : CellsAt w a2 (D.map bv)) (hW : 1 ≤ W) (hW2 : W ≤ 134217728) (hd : 1 ≤ dep) (hd2 : dep ≤ 4096) :
    Calls Try.prog 27 #[.slice a1 A.length c1, .slice a2 D.length c2, .int .i64 W, .int .i64 dep] w fun e w' => ∃ a c, e = .returned (.tuple #[fdv a (A ++ D).length c A.length W dep, .int .i64 0]) ∧ (A ++ D).length ≤ c ∧ CellsAt w' a ((A ++ D).map bv) ∧ Below w.heap.size w w' := by
  obtain ⟨bs, hbs⟩ : ∃ bs, A ++ D = bs := ⟨_, rfl⟩
  have HBs := hid hbs
  rw [hbs]
  clear hbs
  have hX := Blk.new w (fdc none 0 0 0 0 0) 25
  have hB := below_new w (.cells (fdc none 0 0 0 0 0).toArray 25)
  unfold fdc at hX hB
  have HC1 := hid (fun W' (h : Below w.heap.size w W') => hc1.low h)
  have HC2 := hid (fun W' (h : Below w.heap.size w W') => hc2.low h)
  have HX := hid hX
  have HB := hid hB
  have HAl := hid hA
  have hDl : D.length ≤ 131072 := by omega
  have HDl := hid hDl
  have H34 := hid (And.intro h1 (And.intro h2 (And.intro h3 h4)))
  unfold fdv
  clear hX hB hc1 hc2 hA h1 h2 h3 h4 hDl
  go_enter Try.func27, Try.ntmps27
  go_wp2_with (at_builtin; refine Hid.out ?_)
  refine hid ?_
  obtain ⟨w0, hw0, hz0⟩ : ∃ w0, w.alloc (.cells #[.slice none 0 0, .int .i64 0, .int .i64 0, .int .i64 0] 25) = w0 ∧ w0.heap.size = w.heap.size + 1 := ⟨_, rfl, by simp⟩
  rw [hw0] at HX HB ⊢
  have HE0 := hid (own_emptyK (w := w0) (e := 5) 1 (Nat.le_refl _))
  rw [hz0] at HE0
  have HX1 := hid (HX.out.alloc (.cells #[] 5))
  have HB1 := hid (HB.out.alloc HB.out.size (.cells #[] 5))
  have HXlt := hid (Nat.lt_succ_self w.heap.size)
  have hs0 : w.heap.size + 1 ≤ (w0.alloc (.cells #[] 5)).heap.size := by simp [hz0]
  have hsw : w.heap.size ≤ w.heap.size + 1 := Nat.le_succ _
  clear hw0 hz0
  generalize w0.alloc (.cells #[] 5) = w1 at *
  refine wpList_appendsK rfl _ _ 22 rfl 5 _ 1 1 Try.underlying22 Try.info_byte rfl (by decide) (by decide) w1 (w.heap.size + 1) _ 0 A.length c1 a1 [] (A.map bv) (by simp) ?hu rfl rfl H34.out.1 H34.out.2.2.1 (HC1.out w1 HB1.out) (by exact HE0.out) ?hn hs0 ?hk
  case hu =>
    intro u hu
    obtain ⟨x, _, rfl⟩ := List.mem_map.1 hu
    rfl
  case hn => have := HAl.out; omega
  case hk =>
    intro v1 w2 hown1 hg1
    rw [List.nil_append, Nat.zero_add] at hown1
    have hbg1 := below_grown HE0.out hg1 hs0
    have HO1 := hid hown1
    have HX2 := hid (HX1.out.grown hg1 (own_neT HE0.out HX1.out (by decide)))
    have HB2 := hid (HB1.out.trans (hbg1.mono hsw))
    have hs2 : w.heap.size + 1 ≤ w2.heap.size := Nat.le_trans hs0 hbg1.size
    clear hown1 hg1 hbg1 HE0 HX1 HB1 hs0
    obtain ⟨b1, d1, rfl⟩ := own_slice HO1.out
    go_wp2_with (at_builtin; refine Hid.out ?_)
    refine hid ?_
    refine wpList_appendsK rfl _ _ 22 rfl 5 _ 1 1 Try.underlying22 Try.info_byte rfl (by decide) (by decide) w2 (w.heap.size + 1) _ A.length D.length c2 a2 (A.map bv) (D.map bv) (by simp) ?hu2 rfl rfl H34.out.2.1 H34.out.2.2.2 (HC2.out w2 HB2.out) (by exact HO1.out) ?hn2 hs2 ?hk2
    case hu2 =>
      intro u hu
      obtain ⟨x, _, rfl⟩ := List.mem_map.1 hu
      rfl
    case hn2 => have := HAl.out; have := HDl.out; omega
    case hk2 =>
      intro v2 w3 hown2 hg2
      rw [← List.length_append, ← List.map_append, HBs.out] at hown2
      have hbg2 := below_grown HO1.out hg2 hs2
      have hX3 := HX2.out.grown hg2 (own_neT HO1.out HX2.out (by decide))
      have hB3 := HB2.out.trans (hbg2.mono hsw)
      obtain ⟨b2, d2, rfl⟩ := own_slice hown2
      have hcl := (Sl.of_owns hown2).cells' rfl
      have hcap := (Sl.of_owns hown2).cap rfl
      have HO2 := hid hown2
      have z0 := hX3.frozen 0
      have z1 := hX3.frozen 1
      have z2 := hX3.frozen 2
      have z3 := hX3.frozen 3
      have p0 := hX3.cell (k := 0) rfl
      have p1 := hX3.cell (k := 1) rfl
      have p2 := hX3.cell (k := 2) rfl
      have p3 := hX3.cell (k := 3) rfl
      have HX9 := hid ((((hX3.set 0 (.slice b2 bs.length d2)).set 1 (.int .i64 (A.length : Int))).set 2 (.int .i64 W)).set 3 (.int .i64 dep))
      have HB9 := hid ((((hB3.setCell (p := ⟨w.heap.size, 0, none⟩) (Nat.le_refl _) (.slice b2 bs.length d2)).setCell (p := ⟨w.heap.size, 1, none⟩) (Nat.le_refl _) (.int .i64 (A.length : Int))).setCell (p := ⟨w.heap.size, 2, none⟩) (Nat.le_refl _) (.int .i64 W)).setCell (p := ⟨w.heap.size, 3, none⟩) (Nat.le_refl _) (.int .i64 dep))
      have HO9 := hid (own_far (own_far (own_far (own_far hown2 (a := ⟨w.heap.size, 0, none⟩) (.slice b2 bs.length d2) HXlt.out) (a := ⟨w.heap.size, 1, none⟩) (.int .i64 (A.length : Int)) HXlt.out) (a := ⟨w.heap.size, 2, none⟩) (.int .i64 W) HXlt.out) (a := ⟨w.heap.size, 3, none⟩) (.int .i64 dep) HXlt.out)
      have HCap := hid hcap.1
      clear hcl hcap hown2 hX3 hB3 hbg2 hg2
      go_wp2
      have r0 := HX9.out.cell (k := 0) rfl
      have r1 := HX9.out.cell (k := 1) rfl
      have r2 := HX9.out.cell (k := 2) rfl
      have r3 := HX9.out.cell (k := 3) rfl
      refine bodyPost_ret (v := .tuple #[.agg #[.slice b2 bs.length d2, .int .i64 (A.length : Int), .int .i64 W, .int .i64 dep], .int .i64 0]) (by simp [results, Try.results27, go_sem, r0, r1, r2, r3]) rfl ?_
      exact ⟨_, _, rfl, HCap.out, (Sl.of_owns HO9.out).cells' rfl, HB9.out⟩
end Go.Proofs.Ytngphgdoolcpcaa
