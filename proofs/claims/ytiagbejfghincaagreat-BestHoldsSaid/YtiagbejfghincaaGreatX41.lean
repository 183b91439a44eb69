/-
  The walks of layer 33's statements: what is made of a scene.
-/
import Derived.Test.YtiagbejfghincaaGreatX29
import Derived.Test.YtiagbejfghincaaGreatX36
import Derived.Test.YtiagbejfghincaaGreatX30
import Derived.Test.YtiagbejfghincaaGreatX18
import Derived.Test.YtiagbejfghincaaGreatX20
import Derived.Test.YtiagbejfghincaaGreatX21
import Derived.Deep.CutRange
import Derived.Deep.CutBlock
import Derived.LoopN
import Derived.Sort.QuietIn
import Derived.WalkMore
namespace Go.Proofs.YtiagbejfghincaaGreat
open Go.RowKit Go.Port
theorem num33_any (e : Int) (w : World) : Calls Tryz.prog 17 #[.int .i64 e] w fun r w' => r = .returned (.int .i64 e) ∧ w = w' := by
  go_enter Tryz.func17, Tryz.ntmps17
  go_wp2
  go_ret
  exact ⟨rfl, rfl⟩
section
variable {W W0 : World} {b B : Nat} {t : TypeId} {y0 y1 y2 y3 y4 y5 y6 y7 y8 y9 : Value} (u0 u1 u2 u3 u4 u5 u6 u7 u8 u9 : Value)
theorem blk_set10 (h : Blk W b [y0, y1, y2, y3, y4, y5, y6, y7, y8, y9] t) : Blk ((((((((((W.setCell ⟨b, 0, none⟩ (u0)).setCell ⟨b, 1, none⟩ (u1)).setCell ⟨b, 2, none⟩ (u2)).setCell ⟨b, 3, none⟩ (u3)).setCell ⟨b, 4, none⟩ (u4)).setCell ⟨b, 5, none⟩ (u5)).setCell ⟨b, 6, none⟩ (u6)).setCell ⟨b, 7, none⟩ (u7)).setCell ⟨b, 8, none⟩ (u8)).setCell ⟨b, 9, none⟩ (u9)) b [u0, u1, u2, u3, u4, u5, u6, u7, u8, u9] t := ((((((((((h.set 0 u0).set 1 u1).set 2 u2).set 3 u3).set 4 u4).set 5 u5).set 6 u6).set 7 u7).set 8 u8).set 9 u9)
theorem blk_other10 {q : Nat} {vs : List Value} {t' : TypeId} (h : Blk W q vs t') (hne : b ≠ q) : Blk ((((((((((W.setCell ⟨b, 0, none⟩ (u0)).setCell ⟨b, 1, none⟩ (u1)).setCell ⟨b, 2, none⟩ (u2)).setCell ⟨b, 3, none⟩ (u3)).setCell ⟨b, 4, none⟩ (u4)).setCell ⟨b, 5, none⟩ (u5)).setCell ⟨b, 6, none⟩ (u6)).setCell ⟨b, 7, none⟩ (u7)).setCell ⟨b, 8, none⟩ (u8)).setCell ⟨b, 9, none⟩ (u9)) q vs t' := ((((((((((h.other u0 hne).other u1 hne).other u2 hne).other u3 hne).other u4 hne).other u5 hne).other u6 hne).other u7 hne).other u8 hne).other u9 hne)
theorem below_set10 (h : Below B W0 W) (hb : B ≤ b) : Below B W0 ((((((((((W.setCell ⟨b, 0, none⟩ (u0)).setCell ⟨b, 1, none⟩ (u1)).setCell ⟨b, 2, none⟩ (u2)).setCell ⟨b, 3, none⟩ (u3)).setCell ⟨b, 4, none⟩ (u4)).setCell ⟨b, 5, none⟩ (u5)).setCell ⟨b, 6, none⟩ (u6)).setCell ⟨b, 7, none⟩ (u7)).setCell ⟨b, 8, none⟩ (u8)).setCell ⟨b, 9, none⟩ (u9)) := ((((((((((h.setCell (p := ⟨b, 0, none⟩) hb u0).setCell (p := ⟨b, 1, none⟩) hb u1).setCell (p := ⟨b, 2, none⟩) hb u2).setCell (p := ⟨b, 3, none⟩) hb u3).setCell (p := ⟨b, 4, none⟩) hb u4).setCell (p := ⟨b, 5, none⟩) hb u5).setCell (p := ⟨b, 6, none⟩) hb u6).setCell (p := ⟨b, 7, none⟩) hb u7).setCell (p := ⟨b, 8, none⟩) hb u8).setCell (p := ⟨b, 9, none⟩) hb u9)
theorem fds_set10 {E : Nat} {tf tix : TypeId} {bs : List UInt8} {A : Nat} {Wd D : Int} {F : Nat} (h : FdS E tf tix bs A Wd D F W) (hb : b < E) : FdS E tf tix bs A Wd D F ((((((((((W.setCell ⟨b, 0, none⟩ (u0)).setCell ⟨b, 1, none⟩ (u1)).setCell ⟨b, 2, none⟩ (u2)).setCell ⟨b, 3, none⟩ (u3)).setCell ⟨b, 4, none⟩ (u4)).setCell ⟨b, 5, none⟩ (u5)).setCell ⟨b, 6, none⟩ (u6)).setCell ⟨b, 7, none⟩ (u7)).setCell ⟨b, 8, none⟩ (u8)).setCell ⟨b, 9, none⟩ (u9)) := ((((((((((h.set (a := ⟨b, 0, none⟩) hb u0).set (a := ⟨b, 1, none⟩) hb u1).set (a := ⟨b, 2, none⟩) hb u2).set (a := ⟨b, 3, none⟩) hb u3).set (a := ⟨b, 4, none⟩) hb u4).set (a := ⟨b, 5, none⟩) hb u5).set (a := ⟨b, 6, none⟩) hb u6).set (a := ⟨b, 7, none⟩) hb u7).set (a := ⟨b, 8, none⟩) hb u8).set (a := ⟨b, 9, none⟩) hb u9)
theorem pr_set10 {M : Nat} {C : Nat → List Int} (h : PrAt W M C) (hb : Blk W b [y0, y1, y2, y3, y4, y5, y6, y7, y8, y9] t) (h1 : t ≠ 79) (h2 : t ≠ 143) (h3 : t ≠ 3) : PrAt ((((((((((W.setCell ⟨b, 0, none⟩ (u0)).setCell ⟨b, 1, none⟩ (u1)).setCell ⟨b, 2, none⟩ (u2)).setCell ⟨b, 3, none⟩ (u3)).setCell ⟨b, 4, none⟩ (u4)).setCell ⟨b, 5, none⟩ (u5)).setCell ⟨b, 6, none⟩ (u6)).setCell ⟨b, 7, none⟩ (u7)).setCell ⟨b, 8, none⟩ (u8)).setCell ⟨b, 9, none⟩ (u9)) M C := by
  have b0 := hb.set 0 u0
  have b1 := b0.set 1 u1
  have b2 := b1.set 2 u2
  have b3 := b2.set 3 u3
  have b4 := b3.set 4 u4
  have b5 := b4.set 5 u5
  have b6 := b5.set 6 u6
  have b7 := b6.set 7 u7
  have b8 := b7.set 8 u8
  have b9 := b8.set 9 u9
  exact ((((((((((h.other hb h1 h2 h3 u0).other b0 h1 h2 h3 u1).other b1 h1 h2 h3 u2).other b2 h1 h2 h3 u3).other b3 h1 h2 h3 u4).other b4 h1 h2 h3 u5).other b5 h1 h2 h3 u6).other b6 h1 h2 h3 u7).other b7 h1 h2 h3 u8).other b8 h1 h2 h3 u9)
theorem cells_set10 {a : Option Addr} {vs : List Value} (h : CellsAt W a vs) (hb : Blk W b [y0, y1, y2, y3, y4, y5, y6, y7, y8, y9] t) (hv : ∀ u ∈ vs, u ∉ [y0, y1, y2, y3, y4, y5, y6, y7, y8, y9]) : CellsAt ((((((((((W.setCell ⟨b, 0, none⟩ (u0)).setCell ⟨b, 1, none⟩ (u1)).setCell ⟨b, 2, none⟩ (u2)).setCell ⟨b, 3, none⟩ (u3)).setCell ⟨b, 4, none⟩ (u4)).setCell ⟨b, 5, none⟩ (u5)).setCell ⟨b, 6, none⟩ (u6)).setCell ⟨b, 7, none⟩ (u7)).setCell ⟨b, 8, none⟩ (u8)).setCell ⟨b, 9, none⟩ (u9)) a vs := fun j u hu => by
  obtain ⟨q, o, e, h1, h2⟩ := h j u hu
  have hn : q ≠ b := by
    rintro rfl
    have hl : o + j < 10 := by
      by_cases hl : o + j < 10
      · exact hl
      · exfalso
        unfold World.cell? at h2
        unfold Blk at hb
        simp only [hb] at h2
        rw [List.getElem?_toArray, List.getElem?_eq_none (by simpa using hl)] at h2
        cases h2
    obtain ⟨y, hy⟩ : ∃ y, [y0, y1, y2, y3, y4, y5, y6, y7, y8, y9][o + j]? = some y := ⟨_, List.getElem?_eq_getElem hl⟩
    have h3 := hb.cell hy
    rw [h2] at h3
    cases h3
    exact hv u (List.mem_of_getElem? hu) (List.mem_of_getElem? hy)
  refine ⟨q, o, e, by simpa using h1, (World.cell?_of_block ?_).trans h2⟩
  repeat rw [Below.heap_setCell _ _ _ _ (by dsimp only; exact hn)]
end
/-- A scene that is valid, and not too large. -/
def SceneOk (n1 n2 : Nat) (Wd D : Int) (C : Nat → List Int) : Prop := n1 ≤ 100 ∧ n2 ≤ 100 ∧ (∀ k, k < 4 → (C k).length ≤ 300) ∧ finderOk n2 Wd D = true ∧ ∀ k, k < 4 → HistOk k (C k)
/-- The scene's cells. -/
def sceneV (a1 : Option Addr) (n1 c1 : Nat) (a2 : Option Addr) (n2 c2 : Nat) (Wd D : Int) (Ar : Nat → Option Addr) (cp : Nat → Nat) (C : Nat → List Int) : Value := .agg #[.slice a1 n1 c1, .slice a2 n2 c2, .int .i64 Wd, .int .i64 D, .slice (Ar 0) (C 0).length (cp 0), .slice (Ar 1) (C 1).length (cp 1), .slice (Ar 2) (C 2).length (cp 2), .slice (Ar 3) (C 3).length (cp 3)]
set_option maxRecDepth 100000 in
set_option maxHeartbeats 16000000 in
theorem made33_bad (a1 a2 : Option Addr) (c1 c2 : Nat) (H Dt : List UInt8) (Wd D : Int) (Ar : Nat → Option Addr) (cp : Nat → Nat) (C : Nat → List Int) (w : World) (h1 : H.length ≤ c1) (h2 : Dt.length ≤ c2) (h3 : a1 = none → c1 = 0) (h4 : a2 = none → c2 = 0) (hc1 : CellsAt w a1 (H.map bv)) (hc2 : CellsAt w a2 (Dt.map bv)) (hf : FourAt w Ar cp C) (hno : ¬ SceneOk H.length Dt.length Wd D C) :
    Calls Tryz.prog 11 #[sceneV a1 H.length c1 a2 Dt.length c2 Wd D Ar cp C] w (RetV w (.tuple #[.agg #[.pointer none, .pointer none, .slice none 0 0, .int .i64 0, .int .i64 0, .int .i64 0, .slice none 0 0, .slice none 0 0, .slice none 0 0, .slice none 0 0], .bool false])) := by
  have HA := hid (And.intro h1 (And.intro h2 (And.intro h3 h4)))
  have HC := hid (And.intro hc1 (And.intro hc2 hf))
  have HNo := hid hno
  clear h1 h2 h3 h4 hc1 hc2 hf hno
  have hX3 := (((Blk.newAt rfl : Blk (w.alloc (.cells #[.slice a1 H.length c1, .slice a2 Dt.length c2, .int .i64 Wd, .int .i64 D, .slice (Ar 0) (C 0).length (cp 0), .slice (Ar 1) (C 1).length (cp 1), .slice (Ar 2) (C 2).length (cp 2), .slice (Ar 3) (C 3).length (cp 3)] 26)) w.heap.size [.slice a1 H.length c1, .slice a2 Dt.length c2, .int .i64 Wd, .int .i64 D, .slice (Ar 0) (C 0).length (cp 0), .slice (Ar 1) (C 1).length (cp 1), .slice (Ar 2) (C 2).length (cp 2), .slice (Ar 3) (C 3).length (cp 3)] 26).alloc (.cells #[.pointer none, .pointer none, .slice none 0 0, .int .i64 0, .int .i64 0, .int .i64 0, .slice none 0 0, .slice none 0 0, .slice none 0 0, .slice none 0 0] 34)).alloc (.cells #[.pointer none, .pointer none, .slice none 0 0, .int .i64 0, .int .i64 0, .int .i64 0, .slice none 0 0, .slice none 0 0, .slice none 0 0, .slice none 0 0] 34))
  have hR3 := ((Blk.newAt (by simp) : Blk ((w.alloc (.cells #[.slice a1 H.length c1, .slice a2 Dt.length c2, .int .i64 Wd, .int .i64 D, .slice (Ar 0) (C 0).length (cp 0), .slice (Ar 1) (C 1).length (cp 1), .slice (Ar 2) (C 2).length (cp 2), .slice (Ar 3) (C 3).length (cp 3)] 26)).alloc (.cells #[.pointer none, .pointer none, .slice none 0 0, .int .i64 0, .int .i64 0, .int .i64 0, .slice none 0 0, .slice none 0 0, .slice none 0 0, .slice none 0 0] 34)) (w.heap.size + 1) [.pointer none, .pointer none, .slice none 0 0, .int .i64 0, .int .i64 0, .int .i64 0, .slice none 0 0, .slice none 0 0, .slice none 0 0, .slice none 0 0] 34).alloc (.cells #[.pointer none, .pointer none, .slice none 0 0, .int .i64 0, .int .i64 0, .int .i64 0, .slice none 0 0, .slice none 0 0, .slice none 0 0, .slice none 0 0] 34))
  have hB3 := (Blk.newAt (by simp) : Blk (((w.alloc (.cells #[.slice a1 H.length c1, .slice a2 Dt.length c2, .int .i64 Wd, .int .i64 D, .slice (Ar 0) (C 0).length (cp 0), .slice (Ar 1) (C 1).length (cp 1), .slice (Ar 2) (C 2).length (cp 2), .slice (Ar 3) (C 3).length (cp 3)] 26)).alloc (.cells #[.pointer none, .pointer none, .slice none 0 0, .int .i64 0, .int .i64 0, .int .i64 0, .slice none 0 0, .slice none 0 0, .slice none 0 0, .slice none 0 0] 34)).alloc (.cells #[.pointer none, .pointer none, .slice none 0 0, .int .i64 0, .int .i64 0, .int .i64 0, .slice none 0 0, .slice none 0 0, .slice none 0 0, .slice none 0 0] 34)) (w.heap.size + 2) [.pointer none, .pointer none, .slice none 0 0, .int .i64 0, .int .i64 0, .int .i64 0, .slice none 0 0, .slice none 0 0, .slice none 0 0, .slice none 0 0] 34)
  have hL3 : Below w.heap.size w (((w.alloc (.cells #[.slice a1 H.length c1, .slice a2 Dt.length c2, .int .i64 Wd, .int .i64 D, .slice (Ar 0) (C 0).length (cp 0), .slice (Ar 1) (C 1).length (cp 1), .slice (Ar 2) (C 2).length (cp 2), .slice (Ar 3) (C 3).length (cp 3)] 26)).alloc (.cells #[.pointer none, .pointer none, .slice none 0 0, .int .i64 0, .int .i64 0, .int .i64 0, .slice none 0 0, .slice none 0 0, .slice none 0 0, .slice none 0 0] 34)).alloc (.cells #[.pointer none, .pointer none, .slice none 0 0, .int .i64 0, .int .i64 0, .int .i64 0, .slice none 0 0, .slice none 0 0, .slice none 0 0, .slice none 0 0] 34)) := ((below_new w _).alloc (by simp) _).alloc (by simp; omega) _
  have HX3 := hid hX3
  have HR3 := hid hR3
  have HB3 := hid hB3
  have HL3 := hid hL3
  clear hX3 hR3 hB3 hL3
  unfold sceneV
  go_enter Tryz.func11, Tryz.ntmps11
  go_upto_region 2 with fail
  generalize (((w.alloc (.cells #[.slice a1 H.length c1, .slice a2 Dt.length c2, .int .i64 Wd, .int .i64 D, .slice (Ar 0) (C 0).length (cp 0), .slice (Ar 1) (C 1).length (cp 1), .slice (Ar 2) (C 2).length (cp 2), .slice (Ar 3) (C 3).length (cp 3)] 26)).alloc (.cells #[.pointer none, .pointer none, .slice none 0 0, .int .i64 0, .int .i64 0, .int .i64 0, .slice none 0 0, .slice none 0 0, .slice none 0 0, .slice none 0 0] 34)).alloc (.cells #[.pointer none, .pointer none, .slice none 0 0, .int .i64 0, .int .i64 0, .int .i64 0, .slice none 0 0, .slice none 0 0, .slice none 0 0, .slice none 0 0] 34)) = w3 at *
  have x0 := HX3.out.cell (k := 0) rfl
  have x1 := HX3.out.cell (k := 1) rfl
  have x2 := HX3.out.cell (k := 2) rfl
  have x3 := HX3.out.cell (k := 3) rfl
  have x4 := HX3.out.cell (k := 4) rfl
  have x5 := HX3.out.cell (k := 5) rfl
  have x6 := HX3.out.cell (k := 6) rfl
  have x7 := HX3.out.cell (k := 7) rfl
  by_cases g0 : (100 : Int) < (H.length : Int)
  · have b0 := HB3.out.cell (k := 0) rfl
    have b1 := HB3.out.cell (k := 1) rfl
    have b2 := HB3.out.cell (k := 2) rfl
    have b3 := HB3.out.cell (k := 3) rfl
    have b4 := HB3.out.cell (k := 4) rfl
    have b5 := HB3.out.cell (k := 5) rfl
    have b6 := HB3.out.cell (k := 6) rfl
    have b7 := HB3.out.cell (k := 7) rfl
    have b8 := HB3.out.cell (k := 8) rfl
    have b9 := HB3.out.cell (k := 9) rfl
    have p0 := HR3.out.cell (k := 0) rfl
    have z0 := HR3.out.frozen 0
    have p1 := HR3.out.cell (k := 1) rfl
    have z1 := HR3.out.frozen 1
    have p2 := HR3.out.cell (k := 2) rfl
    have z2 := HR3.out.frozen 2
    have p3 := HR3.out.cell (k := 3) rfl
    have z3 := HR3.out.frozen 3
    have p4 := HR3.out.cell (k := 4) rfl
    have z4 := HR3.out.frozen 4
    have p5 := HR3.out.cell (k := 5) rfl
    have z5 := HR3.out.frozen 5
    have p6 := HR3.out.cell (k := 6) rfl
    have z6 := HR3.out.frozen 6
    have p7 := HR3.out.cell (k := 7) rfl
    have z7 := HR3.out.frozen 7
    have p8 := HR3.out.cell (k := 8) rfl
    have z8 := HR3.out.frozen 8
    have p9 := HR3.out.cell (k := 9) rfl
    have z9 := HR3.out.frozen 9
    have HR9 := hid (blk_set10 (.pointer none) (.pointer none) (.slice none 0 0) (.int .i64 0) (.int .i64 0) (.int .i64 0) (.slice none 0 0) (.slice none 0 0) (.slice none 0 0) (.slice none 0 0) HR3.out)
    have HL9 := hid (below_set10 (.pointer none) (.pointer none) (.slice none 0 0) (.int .i64 0) (.int .i64 0) (.int .i64 0) (.slice none 0 0) (.slice none 0 0) (.slice none 0 0) (.slice none 0 0) HL3.out (Nat.le_succ _))
    go_wp2
    have r0 := HR9.out.cell (k := 0) rfl
    have r1 := HR9.out.cell (k := 1) rfl
    have r2 := HR9.out.cell (k := 2) rfl
    have r3 := HR9.out.cell (k := 3) rfl
    have r4 := HR9.out.cell (k := 4) rfl
    have r5 := HR9.out.cell (k := 5) rfl
    have r6 := HR9.out.cell (k := 6) rfl
    have r7 := HR9.out.cell (k := 7) rfl
    have r8 := HR9.out.cell (k := 8) rfl
    have r9 := HR9.out.cell (k := 9) rfl
    refine bodyPost_ret (v := .tuple #[.agg #[.pointer none, .pointer none, .slice none 0 0, .int .i64 0, .int .i64 0, .int .i64 0, .slice none 0 0, .slice none 0 0, .slice none 0 0, .slice none 0 0], .bool false]) (by simp [results, Tryz.results11, go_sem, r0, r1, r2, r3, r4, r5, r6, r7, r8, r9]) rfl ?_
    exact ⟨rfl, HL9.out⟩
  by_cases g1 : (100 : Int) < (Dt.length : Int)
  · have b0 := HB3.out.cell (k := 0) rfl
    have b1 := HB3.out.cell (k := 1) rfl
    have b2 := HB3.out.cell (k := 2) rfl
    have b3 := HB3.out.cell (k := 3) rfl
    have b4 := HB3.out.cell (k := 4) rfl
    have b5 := HB3.out.cell (k := 5) rfl
    have b6 := HB3.out.cell (k := 6) rfl
    have b7 := HB3.out.cell (k := 7) rfl
    have b8 := HB3.out.cell (k := 8) rfl
    have b9 := HB3.out.cell (k := 9) rfl
    have p0 := HR3.out.cell (k := 0) rfl
    have z0 := HR3.out.frozen 0
    have p1 := HR3.out.cell (k := 1) rfl
    have z1 := HR3.out.frozen 1
    have p2 := HR3.out.cell (k := 2) rfl
    have z2 := HR3.out.frozen 2
    have p3 := HR3.out.cell (k := 3) rfl
    have z3 := HR3.out.frozen 3
    have p4 := HR3.out.cell (k := 4) rfl
    have z4 := HR3.out.frozen 4
    have p5 := HR3.out.cell (k := 5) rfl
    have z5 := HR3.out.frozen 5
    have p6 := HR3.out.cell (k := 6) rfl
    have z6 := HR3.out.frozen 6
    have p7 := HR3.out.cell (k := 7) rfl
    have z7 := HR3.out.frozen 7
    have p8 := HR3.out.cell (k := 8) rfl
    have z8 := HR3.out.frozen 8
    have p9 := HR3.out.cell (k := 9) rfl
    have z9 := HR3.out.frozen 9
    have HR9 := hid (blk_set10 (.pointer none) (.pointer none) (.slice none 0 0) (.int .i64 0) (.int .i64 0) (.int .i64 0) (.slice none 0 0) (.slice none 0 0) (.slice none 0 0) (.slice none 0 0) HR3.out)
    have HL9 := hid (below_set10 (.pointer none) (.pointer none) (.slice none 0 0) (.int .i64 0) (.int .i64 0) (.int .i64 0) (.slice none 0 0) (.slice none 0 0) (.slice none 0 0) (.slice none 0 0) HL3.out (Nat.le_succ _))
    go_wp2
    have r0 := HR9.out.cell (k := 0) rfl
    have r1 := HR9.out.cell (k := 1) rfl
    have r2 := HR9.out.cell (k := 2) rfl
    have r3 := HR9.out.cell (k := 3) rfl
    have r4 := HR9.out.cell (k := 4) rfl
    have r5 := HR9.out.cell (k := 5) rfl
    have r6 := HR9.out.cell (k := 6) rfl
    have r7 := HR9.out.cell (k := 7) rfl
    have r8 := HR9.out.cell (k := 8) rfl
    have r9 := HR9.out.cell (k := 9) rfl
    refine bodyPost_ret (v := .tuple #[.agg #[.pointer none, .pointer none, .slice none 0 0, .int .i64 0, .int .i64 0, .int .i64 0, .slice none 0 0, .slice none 0 0, .slice none 0 0, .slice none 0 0], .bool false]) (by simp [results, Tryz.results11, go_sem, r0, r1, r2, r3, r4, r5, r6, r7, r8, r9]) rfl ?_
    exact ⟨rfl, HL9.out⟩
  by_cases g2 : (300 : Int) < ((C 0).length : Int)
  · have b0 := HB3.out.cell (k := 0) rfl
    have b1 := HB3.out.cell (k := 1) rfl
    have b2 := HB3.out.cell (k := 2) rfl
    have b3 := HB3.out.cell (k := 3) rfl
    have b4 := HB3.out.cell (k := 4) rfl
    have b5 := HB3.out.cell (k := 5) rfl
    have b6 := HB3.out.cell (k := 6) rfl
    have b7 := HB3.out.cell (k := 7) rfl
    have b8 := HB3.out.cell (k := 8) rfl
    have b9 := HB3.out.cell (k := 9) rfl
    have p0 := HR3.out.cell (k := 0) rfl
    have z0 := HR3.out.frozen 0
    have p1 := HR3.out.cell (k := 1) rfl
    have z1 := HR3.out.frozen 1
    have p2 := HR3.out.cell (k := 2) rfl
    have z2 := HR3.out.frozen 2
    have p3 := HR3.out.cell (k := 3) rfl
    have z3 := HR3.out.frozen 3
    have p4 := HR3.out.cell (k := 4) rfl
    have z4 := HR3.out.frozen 4
    have p5 := HR3.out.cell (k := 5) rfl
    have z5 := HR3.out.frozen 5
    have p6 := HR3.out.cell (k := 6) rfl
    have z6 := HR3.out.frozen 6
    have p7 := HR3.out.cell (k := 7) rfl
    have z7 := HR3.out.frozen 7
    have p8 := HR3.out.cell (k := 8) rfl
    have z8 := HR3.out.frozen 8
    have p9 := HR3.out.cell (k := 9) rfl
    have z9 := HR3.out.frozen 9
    have HR9 := hid (blk_set10 (.pointer none) (.pointer none) (.slice none 0 0) (.int .i64 0) (.int .i64 0) (.int .i64 0) (.slice none 0 0) (.slice none 0 0) (.slice none 0 0) (.slice none 0 0) HR3.out)
    have HL9 := hid (below_set10 (.pointer none) (.pointer none) (.slice none 0 0) (.int .i64 0) (.int .i64 0) (.int .i64 0) (.slice none 0 0) (.slice none 0 0) (.slice none 0 0) (.slice none 0 0) HL3.out (Nat.le_succ _))
    go_wp2
    have r0 := HR9.out.cell (k := 0) rfl
    have r1 := HR9.out.cell (k := 1) rfl
    have r2 := HR9.out.cell (k := 2) rfl
    have r3 := HR9.out.cell (k := 3) rfl
    have r4 := HR9.out.cell (k := 4) rfl
    have r5 := HR9.out.cell (k := 5) rfl
    have r6 := HR9.out.cell (k := 6) rfl
    have r7 := HR9.out.cell (k := 7) rfl
    have r8 := HR9.out.cell (k := 8) rfl
    have r9 := HR9.out.cell (k := 9) rfl
    refine bodyPost_ret (v := .tuple #[.agg #[.pointer none, .pointer none, .slice none 0 0, .int .i64 0, .int .i64 0, .int .i64 0, .slice none 0 0, .slice none 0 0, .slice none 0 0, .slice none 0 0], .bool false]) (by simp [results, Tryz.results11, go_sem, r0, r1, r2, r3, r4, r5, r6, r7, r8, r9]) rfl ?_
    exact ⟨rfl, HL9.out⟩
  by_cases g3 : (300 : Int) < ((C 1).length : Int)
  · have b0 := HB3.out.cell (k := 0) rfl
    have b1 := HB3.out.cell (k := 1) rfl
    have b2 := HB3.out.cell (k := 2) rfl
    have b3 := HB3.out.cell (k := 3) rfl
    have b4 := HB3.out.cell (k := 4) rfl
    have b5 := HB3.out.cell (k := 5) rfl
    have b6 := HB3.out.cell (k := 6) rfl
    have b7 := HB3.out.cell (k := 7) rfl
    have b8 := HB3.out.cell (k := 8) rfl
    have b9 := HB3.out.cell (k := 9) rfl
    have p0 := HR3.out.cell (k := 0) rfl
    have z0 := HR3.out.frozen 0
    have p1 := HR3.out.cell (k := 1) rfl
    have z1 := HR3.out.frozen 1
    have p2 := HR3.out.cell (k := 2) rfl
    have z2 := HR3.out.frozen 2
    have p3 := HR3.out.cell (k := 3) rfl
    have z3 := HR3.out.frozen 3
    have p4 := HR3.out.cell (k := 4) rfl
    have z4 := HR3.out.frozen 4
    have p5 := HR3.out.cell (k := 5) rfl
    have z5 := HR3.out.frozen 5
    have p6 := HR3.out.cell (k := 6) rfl
    have z6 := HR3.out.frozen 6
    have p7 := HR3.out.cell (k := 7) rfl
    have z7 := HR3.out.frozen 7
    have p8 := HR3.out.cell (k := 8) rfl
    have z8 := HR3.out.frozen 8
    have p9 := HR3.out.cell (k := 9) rfl
    have z9 := HR3.out.frozen 9
    have HR9 := hid (blk_set10 (.pointer none) (.pointer none) (.slice none 0 0) (.int .i64 0) (.int .i64 0) (.int .i64 0) (.slice none 0 0) (.slice none 0 0) (.slice none 0 0) (.slice none 0 0) HR3.out)
    have HL9 := hid (below_set10 (.pointer none) (.pointer none) (.slice none 0 0) (.int .i64 0) (.int .i64 0) (.int .i64 0) (.slice none 0 0) (.slice none 0 0) (.slice none 0 0) (.slice none 0 0) HL3.out (Nat.le_succ _))
    go_wp2
    have r0 := HR9.out.cell (k := 0) rfl
    have r1 := HR9.out.cell (k := 1) rfl
    have r2 := HR9.out.cell (k := 2) rfl
    have r3 := HR9.out.cell (k := 3) rfl
    have r4 := HR9.out.cell (k := 4) rfl
    have r5 := HR9.out.cell (k := 5) rfl
    have r6 := HR9.out.cell (k := 6) rfl
    have r7 := HR9.out.cell (k := 7) rfl
    have r8 := HR9.out.cell (k := 8) rfl
    have r9 := HR9.out.cell (k := 9) rfl
    refine bodyPost_ret (v := .tuple #[.agg #[.pointer none, .pointer none, .slice none 0 0, .int .i64 0, .int .i64 0, .int .i64 0, .slice none 0 0, .slice none 0 0, .slice none 0 0, .slice none 0 0], .bool false]) (by simp [results, Tryz.results11, go_sem, r0, r1, r2, r3, r4, r5, r6, r7, r8, r9]) rfl ?_
    exact ⟨rfl, HL9.out⟩
  by_cases g4 : (300 : Int) < ((C 2).length : Int)
  · have b0 := HB3.out.cell (k := 0) rfl
    have b1 := HB3.out.cell (k := 1) rfl
    have b2 := HB3.out.cell (k := 2) rfl
    have b3 := HB3.out.cell (k := 3) rfl
    have b4 := HB3.out.cell (k := 4) rfl
    have b5 := HB3.out.cell (k := 5) rfl
    have b6 := HB3.out.cell (k := 6) rfl
    have b7 := HB3.out.cell (k := 7) rfl
    have b8 := HB3.out.cell (k := 8) rfl
    have b9 := HB3.out.cell (k := 9) rfl
    have p0 := HR3.out.cell (k := 0) rfl
    have z0 := HR3.out.frozen 0
    have p1 := HR3.out.cell (k := 1) rfl
    have z1 := HR3.out.frozen 1
    have p2 := HR3.out.cell (k := 2) rfl
    have z2 := HR3.out.frozen 2
    have p3 := HR3.out.cell (k := 3) rfl
    have z3 := HR3.out.frozen 3
    have p4 := HR3.out.cell (k := 4) rfl
    have z4 := HR3.out.frozen 4
    have p5 := HR3.out.cell (k := 5) rfl
    have z5 := HR3.out.frozen 5
    have p6 := HR3.out.cell (k := 6) rfl
    have z6 := HR3.out.frozen 6
    have p7 := HR3.out.cell (k := 7) rfl
    have z7 := HR3.out.frozen 7
    have p8 := HR3.out.cell (k := 8) rfl
    have z8 := HR3.out.frozen 8
    have p9 := HR3.out.cell (k := 9) rfl
    have z9 := HR3.out.frozen 9
    have HR9 := hid (blk_set10 (.pointer none) (.pointer none) (.slice none 0 0) (.int .i64 0) (.int .i64 0) (.int .i64 0) (.slice none 0 0) (.slice none 0 0) (.slice none 0 0) (.slice none 0 0) HR3.out)
    have HL9 := hid (below_set10 (.pointer none) (.pointer none) (.slice none 0 0) (.int .i64 0) (.int .i64 0) (.int .i64 0) (.slice none 0 0) (.slice none 0 0) (.slice none 0 0) (.slice none 0 0) HL3.out (Nat.le_succ _))
    go_wp2
    have r0 := HR9.out.cell (k := 0) rfl
    have r1 := HR9.out.cell (k := 1) rfl
    have r2 := HR9.out.cell (k := 2) rfl
    have r3 := HR9.out.cell (k := 3) rfl
    have r4 := HR9.out.cell (k := 4) rfl
    have r5 := HR9.out.cell (k := 5) rfl
    have r6 := HR9.out.cell (k := 6) rfl
    have r7 := HR9.out.cell (k := 7) rfl
    have r8 := HR9.out.cell (k := 8) rfl
    have r9 := HR9.out.cell (k := 9) rfl
    refine bodyPost_ret (v := .tuple #[.agg #[.pointer none, .pointer none, .slice none 0 0, .int .i64 0, .int .i64 0, .int .i64 0, .slice none 0 0, .slice none 0 0, .slice none 0 0, .slice none 0 0], .bool false]) (by simp [results, Tryz.results11, go_sem, r0, r1, r2, r3, r4, r5, r6, r7, r8, r9]) rfl ?_
    exact ⟨rfl, HL9.out⟩
  by_cases g5 : (300 : Int) < ((C 3).length : Int)
  · have b0 := HB3.out.cell (k := 0) rfl
    have b1 := HB3.out.cell (k := 1) rfl
    have b2 := HB3.out.cell (k := 2) rfl
    have b3 := HB3.out.cell (k := 3) rfl
    have b4 := HB3.out.cell (k := 4) rfl
    have b5 := HB3.out.cell (k := 5) rfl
    have b6 := HB3.out.cell (k := 6) rfl
    have b7 := HB3.out.cell (k := 7) rfl
    have b8 := HB3.out.cell (k := 8) rfl
    have b9 := HB3.out.cell (k := 9) rfl
    have p0 := HR3.out.cell (k := 0) rfl
    have z0 := HR3.out.frozen 0
    have p1 := HR3.out.cell (k := 1) rfl
    have z1 := HR3.out.frozen 1
    have p2 := HR3.out.cell (k := 2) rfl
    have z2 := HR3.out.frozen 2
    have p3 := HR3.out.cell (k := 3) rfl
    have z3 := HR3.out.frozen 3
    have p4 := HR3.out.cell (k := 4) rfl
    have z4 := HR3.out.frozen 4
    have p5 := HR3.out.cell (k := 5) rfl
    have z5 := HR3.out.frozen 5
    have p6 := HR3.out.cell (k := 6) rfl
    have z6 := HR3.out.frozen 6
    have p7 := HR3.out.cell (k := 7) rfl
    have z7 := HR3.out.frozen 7
    have p8 := HR3.out.cell (k := 8) rfl
    have z8 := HR3.out.frozen 8
    have p9 := HR3.out.cell (k := 9) rfl
    have z9 := HR3.out.frozen 9
    have HR9 := hid (blk_set10 (.pointer none) (.pointer none) (.slice none 0 0) (.int .i64 0) (.int .i64 0) (.int .i64 0) (.slice none 0 0) (.slice none 0 0) (.slice none 0 0) (.slice none 0 0) HR3.out)
    have HL9 := hid (below_set10 (.pointer none) (.pointer none) (.slice none 0 0) (.int .i64 0) (.int .i64 0) (.int .i64 0) (.slice none 0 0) (.slice none 0 0) (.slice none 0 0) (.slice none 0 0) HL3.out (Nat.le_succ _))
    go_wp2
    have r0 := HR9.out.cell (k := 0) rfl
    have r1 := HR9.out.cell (k := 1) rfl
    have r2 := HR9.out.cell (k := 2) rfl
    have r3 := HR9.out.cell (k := 3) rfl
    have r4 := HR9.out.cell (k := 4) rfl
    have r5 := HR9.out.cell (k := 5) rfl
    have r6 := HR9.out.cell (k := 6) rfl
    have r7 := HR9.out.cell (k := 7) rfl
    have r8 := HR9.out.cell (k := 8) rfl
    have r9 := HR9.out.cell (k := 9) rfl
    refine bodyPost_ret (v := .tuple #[.agg #[.pointer none, .pointer none, .slice none 0 0, .int .i64 0, .int .i64 0, .int .i64 0, .slice none 0 0, .slice none 0 0, .slice none 0 0, .slice none 0 0], .bool false]) (by simp [results, Tryz.results11, go_sem, r0, r1, r2, r3, r4, r5, r6, r7, r8, r9]) rfl ?_
    exact ⟨rfl, HL9.out⟩
  have hk3 : ∀ k, k < 4 → (C k).length ≤ 300 := fun k hk => by
    have : k = 0 ∨ k = 1 ∨ k = 2 ∨ k = 3 := by omega
    rcases this with rfl | rfl | rfl | rfl <;> omega
  by_cases hho : ∀ k, k < 4 → HistOk k (C k)
  · have hfo : finderOk Dt.length Wd D = false := by
      rcases hq : finderOk Dt.length Wd D with _ | _
      · rfl
      · exact absurd ⟨by omega, by omega, hk3, hq, hho⟩ HNo.out
    have HRf := hid (HC.out)
    go_wp2_with fail
    refine (rnew_bad a1 a2 H.length Dt.length c1 c2 Wd D w3 hfo).mono ?_
    rintro e w4 ⟨rfl, hb4⟩
    unfold fdv
    have hbn := below_new w4 (.cells #[.slice none 0 0, .int .i64 0, .int .i64 0, .int .i64 0] 30)
    have hb5 := hb4.trans (hbn.mono hb4.size)
    have HX5 := hid (HX3.out.below hb5 HX3.out.lt)
    have HR5 := hid (HR3.out.below hb5 HR3.out.lt)
    have HB5 := hid (HB3.out.below hb5 HB3.out.lt)
    have HL5 := hid (HL3.out.trans (hb5.mono HL3.out.size))
    have HRn := hid (rpri_ok Ar cp C (w4.alloc (.cells #[.slice none 0 0, .int .i64 0, .int .i64 0, .int .i64 0] 30)) (HC.out.2.2.low HL5.out) hho)
    unfold fourV at HRn
    clear x0 x1 x2 x3 x4 x5 x6 x7 hb4 hbn hb5
    go_upto_region 5 with fail
    generalize w4.alloc (.cells #[.slice none 0 0, .int .i64 0, .int .i64 0, .int .i64 0] 30) = w5 at *
    have x4 := HX5.out.cell (k := 4) rfl
    have x5 := HX5.out.cell (k := 5) rfl
    have x6 := HX5.out.cell (k := 6) rfl
    have x7 := HX5.out.cell (k := 7) rfl
    go_wp2_with fail
    refine HRn.out.mono ?_
    rintro e w6 ⟨rfl, hb6⟩
    have hbn := below_new w6 (.cells #[.slice (Ar 0) (C 0).length (cp 0), .slice (Ar 1) (C 1).length (cp 1), .slice (Ar 2) (C 2).length (cp 2), .slice (Ar 3) (C 3).length (cp 3)] 32)
    have hb7 := hb6.trans (hbn.mono hb6.size)
    have HX7 := hid (HX5.out.below hb7 HX5.out.lt)
    have HR7 := hid (HR5.out.below hb7 HR5.out.lt)
    have HB7 := hid (HB5.out.below hb7 HB5.out.lt)
    have HL7 := hid (HL5.out.trans (hb7.mono HL5.out.size))
    clear x4 x5 x6 x7 hb6 hbn hb7
    go_upto_region 6 with fail
    generalize w6.alloc (.cells #[.slice (Ar 0) (C 0).length (cp 0), .slice (Ar 1) (C 1).length (cp 1), .slice (Ar 2) (C 2).length (cp 2), .slice (Ar 3) (C 3).length (cp 3)] 32) = w7 at *
    have b0 := HB7.out.cell (k := 0) rfl
    have b1 := HB7.out.cell (k := 1) rfl
    have b2 := HB7.out.cell (k := 2) rfl
    have b3 := HB7.out.cell (k := 3) rfl
    have b4 := HB7.out.cell (k := 4) rfl
    have b5 := HB7.out.cell (k := 5) rfl
    have b6 := HB7.out.cell (k := 6) rfl
    have b7 := HB7.out.cell (k := 7) rfl
    have b8 := HB7.out.cell (k := 8) rfl
    have b9 := HB7.out.cell (k := 9) rfl
    have p0 := HR7.out.cell (k := 0) rfl
    have z0 := HR7.out.frozen 0
    have p1 := HR7.out.cell (k := 1) rfl
    have z1 := HR7.out.frozen 1
    have p2 := HR7.out.cell (k := 2) rfl
    have z2 := HR7.out.frozen 2
    have p3 := HR7.out.cell (k := 3) rfl
    have z3 := HR7.out.frozen 3
    have p4 := HR7.out.cell (k := 4) rfl
    have z4 := HR7.out.frozen 4
    have p5 := HR7.out.cell (k := 5) rfl
    have z5 := HR7.out.frozen 5
    have p6 := HR7.out.cell (k := 6) rfl
    have z6 := HR7.out.frozen 6
    have p7 := HR7.out.cell (k := 7) rfl
    have z7 := HR7.out.frozen 7
    have p8 := HR7.out.cell (k := 8) rfl
    have z8 := HR7.out.frozen 8
    have p9 := HR7.out.cell (k := 9) rfl
    have z9 := HR7.out.frozen 9
    have HR9 := hid (blk_set10 (.pointer none) (.pointer none) (.slice none 0 0) (.int .i64 0) (.int .i64 0) (.int .i64 0) (.slice none 0 0) (.slice none 0 0) (.slice none 0 0) (.slice none 0 0) HR7.out)
    have HL9 := hid (below_set10 (.pointer none) (.pointer none) (.slice none 0 0) (.int .i64 0) (.int .i64 0) (.int .i64 0) (.slice none 0 0) (.slice none 0 0) (.slice none 0 0) (.slice none 0 0) HL7.out (Nat.le_succ _))
    go_wp2
    have r0 := HR9.out.cell (k := 0) rfl
    have r1 := HR9.out.cell (k := 1) rfl
    have r2 := HR9.out.cell (k := 2) rfl
    have r3 := HR9.out.cell (k := 3) rfl
    have r4 := HR9.out.cell (k := 4) rfl
    have r5 := HR9.out.cell (k := 5) rfl
    have r6 := HR9.out.cell (k := 6) rfl
    have r7 := HR9.out.cell (k := 7) rfl
    have r8 := HR9.out.cell (k := 8) rfl
    have r9 := HR9.out.cell (k := 9) rfl
    refine bodyPost_ret (v := .tuple #[.agg #[.pointer none, .pointer none, .slice none 0 0, .int .i64 0, .int .i64 0, .int .i64 0, .slice none 0 0, .slice none 0 0, .slice none 0 0, .slice none 0 0], .bool false]) (by simp [results, Tryz.results11, go_sem, r0, r1, r2, r3, r4, r5, r6, r7, r8, r9]) rfl ?_
    exact ⟨rfl, HL9.out⟩
  · rcases hfo : finderOk Dt.length Wd D with _ | _
    · have HRf := hid (HC.out)
      go_wp2_with fail
      refine (rnew_bad a1 a2 H.length Dt.length c1 c2 Wd D w3 hfo).mono ?_
      rintro e w4 ⟨rfl, hb4⟩
      unfold fdv
      have hbn := below_new w4 (.cells #[.slice none 0 0, .int .i64 0, .int .i64 0, .int .i64 0] 30)
      have hb5 := hb4.trans (hbn.mono hb4.size)
      have HX5 := hid (HX3.out.below hb5 HX3.out.lt)
      have HR5 := hid (HR3.out.below hb5 HR3.out.lt)
      have HB5 := hid (HB3.out.below hb5 HB3.out.lt)
      have HL5 := hid (HL3.out.trans (hb5.mono HL3.out.size))
      have HRn := hid (rpri_bad Ar cp C (w4.alloc (.cells #[.slice none 0 0, .int .i64 0, .int .i64 0, .int .i64 0] 30)) (HC.out.2.2.low HL5.out) hho)
      unfold fourV at HRn
      clear x0 x1 x2 x3 x4 x5 x6 x7 hb4 hbn hb5
      go_upto_region 5 with fail
      generalize w4.alloc (.cells #[.slice none 0 0, .int .i64 0, .int .i64 0, .int .i64 0] 30) = w5 at *
      have x4 := HX5.out.cell (k := 4) rfl
      have x5 := HX5.out.cell (k := 5) rfl
      have x6 := HX5.out.cell (k := 6) rfl
      have x7 := HX5.out.cell (k := 7) rfl
      go_wp2_with fail
      refine HRn.out.mono ?_
      rintro e w6 ⟨rfl, hb6⟩
      have hbn := below_new w6 (.cells #[.slice none 0 0, .slice none 0 0, .slice none 0 0, .slice none 0 0] 32)
      have hb7 := hb6.trans (hbn.mono hb6.size)
      have HX7 := hid (HX5.out.below hb7 HX5.out.lt)
      have HR7 := hid (HR5.out.below hb7 HR5.out.lt)
      have HB7 := hid (HB5.out.below hb7 HB5.out.lt)
      have HL7 := hid (HL5.out.trans (hb7.mono HL5.out.size))
      clear x4 x5 x6 x7 hb6 hbn hb7
      go_upto_region 6 with fail
      generalize w6.alloc (.cells #[.slice none 0 0, .slice none 0 0, .slice none 0 0, .slice none 0 0] 32) = w7 at *
      have b0 := HB7.out.cell (k := 0) rfl
      have b1 := HB7.out.cell (k := 1) rfl
      have b2 := HB7.out.cell (k := 2) rfl
      have b3 := HB7.out.cell (k := 3) rfl
      have b4 := HB7.out.cell (k := 4) rfl
      have b5 := HB7.out.cell (k := 5) rfl
      have b6 := HB7.out.cell (k := 6) rfl
      have b7 := HB7.out.cell (k := 7) rfl
      have b8 := HB7.out.cell (k := 8) rfl
      have b9 := HB7.out.cell (k := 9) rfl
      have p0 := HR7.out.cell (k := 0) rfl
      have z0 := HR7.out.frozen 0
      have p1 := HR7.out.cell (k := 1) rfl
      have z1 := HR7.out.frozen 1
      have p2 := HR7.out.cell (k := 2) rfl
      have z2 := HR7.out.frozen 2
      have p3 := HR7.out.cell (k := 3) rfl
      have z3 := HR7.out.frozen 3
      have p4 := HR7.out.cell (k := 4) rfl
      have z4 := HR7.out.frozen 4
      have p5 := HR7.out.cell (k := 5) rfl
      have z5 := HR7.out.frozen 5
      have p6 := HR7.out.cell (k := 6) rfl
      have z6 := HR7.out.frozen 6
      have p7 := HR7.out.cell (k := 7) rfl
      have z7 := HR7.out.frozen 7
      have p8 := HR7.out.cell (k := 8) rfl
      have z8 := HR7.out.frozen 8
      have p9 := HR7.out.cell (k := 9) rfl
      have z9 := HR7.out.frozen 9
      have HR9 := hid (blk_set10 (.pointer none) (.pointer none) (.slice none 0 0) (.int .i64 0) (.int .i64 0) (.int .i64 0) (.slice none 0 0) (.slice none 0 0) (.slice none 0 0) (.slice none 0 0) HR7.out)
      have HL9 := hid (below_set10 (.pointer none) (.pointer none) (.slice none 0 0) (.int .i64 0) (.int .i64 0) (.int .i64 0) (.slice none 0 0) (.slice none 0 0) (.slice none 0 0) (.slice none 0 0) HL7.out (Nat.le_succ _))
      go_wp2
      have r0 := HR9.out.cell (k := 0) rfl
      have r1 := HR9.out.cell (k := 1) rfl
      have r2 := HR9.out.cell (k := 2) rfl
      have r3 := HR9.out.cell (k := 3) rfl
      have r4 := HR9.out.cell (k := 4) rfl
      have r5 := HR9.out.cell (k := 5) rfl
      have r6 := HR9.out.cell (k := 6) rfl
      have r7 := HR9.out.cell (k := 7) rfl
      have r8 := HR9.out.cell (k := 8) rfl
      have r9 := HR9.out.cell (k := 9) rfl
      refine bodyPost_ret (v := .tuple #[.agg #[.pointer none, .pointer none, .slice none 0 0, .int .i64 0, .int .i64 0, .int .i64 0, .slice none 0 0, .slice none 0 0, .slice none 0 0, .slice none 0 0], .bool false]) (by simp [results, Tryz.results11, go_sem, r0, r1, r2, r3, r4, r5, r6, r7, r8, r9]) rfl ?_
      exact ⟨rfl, HL9.out⟩
    · have hkf : 1 ≤ Wd ∧ Wd ≤ 134217728 ∧ 1 ≤ D ∧ D ≤ 4096 := by
        unfold finderOk at hfo
        simp only [Bool.and_eq_true, decide_eq_true_eq] at hfo
        omega
      have HRf := hid (HC.out)
      go_wp2_with fail
      have HRo := hid (rnew_ok a1 a2 c1 c2 H Dt Wd D w3 (by omega) (by omega) HA.out.1 HA.out.2.1 HA.out.2.2.1 HA.out.2.2.2 (HC.out.1.low HL3.out) (HC.out.2.1.low HL3.out) hkf.1 hkf.2.1 hkf.2.2.1 hkf.2.2.2)
      obtain ⟨bs, hbs⟩ : ∃ bs, H ++ Dt = bs := ⟨_, rfl⟩
      rw [hbs] at HRo
      clear hbs
      refine HRo.out.mono ?_
      rintro e w4 ⟨af, cf, rfl, _, _, hb4⟩
      unfold fdv
      have hbn := below_new w4 (.cells #[.slice af bs.length cf, .int .i64 (H.length : Int), .int .i64 Wd, .int .i64 D] 30)
      have hb5 := hb4.trans (hbn.mono hb4.size)
      have HX5 := hid (HX3.out.below hb5 HX3.out.lt)
      have HR5 := hid (HR3.out.below hb5 HR3.out.lt)
      have HB5 := hid (HB3.out.below hb5 HB3.out.lt)
      have HL5 := hid (HL3.out.trans (hb5.mono HL3.out.size))
      have HRn := hid (rpri_bad Ar cp C (w4.alloc (.cells #[.slice af bs.length cf, .int .i64 (H.length : Int), .int .i64 Wd, .int .i64 D] 30)) (HC.out.2.2.low HL5.out) hho)
      unfold fourV at HRn
      clear x0 x1 x2 x3 x4 x5 x6 x7 hb4 hbn hb5
      go_upto_region 5 with fail
      generalize w4.alloc (.cells #[.slice af bs.length cf, .int .i64 (H.length : Int), .int .i64 Wd, .int .i64 D] 30) = w5 at *
      have x4 := HX5.out.cell (k := 4) rfl
      have x5 := HX5.out.cell (k := 5) rfl
      have x6 := HX5.out.cell (k := 6) rfl
      have x7 := HX5.out.cell (k := 7) rfl
      go_wp2_with fail
      refine HRn.out.mono ?_
      rintro e w6 ⟨rfl, hb6⟩
      have hbn := below_new w6 (.cells #[.slice none 0 0, .slice none 0 0, .slice none 0 0, .slice none 0 0] 32)
      have hb7 := hb6.trans (hbn.mono hb6.size)
      have HX7 := hid (HX5.out.below hb7 HX5.out.lt)
      have HR7 := hid (HR5.out.below hb7 HR5.out.lt)
      have HB7 := hid (HB5.out.below hb7 HB5.out.lt)
      have HL7 := hid (HL5.out.trans (hb7.mono HL5.out.size))
      clear x4 x5 x6 x7 hb6 hbn hb7
      go_upto_region 6 with fail
      generalize w6.alloc (.cells #[.slice none 0 0, .slice none 0 0, .slice none 0 0, .slice none 0 0] 32) = w7 at *
      have b0 := HB7.out.cell (k := 0) rfl
      have b1 := HB7.out.cell (k := 1) rfl
      have b2 := HB7.out.cell (k := 2) rfl
      have b3 := HB7.out.cell (k := 3) rfl
      have b4 := HB7.out.cell (k := 4) rfl
      have b5 := HB7.out.cell (k := 5) rfl
      have b6 := HB7.out.cell (k := 6) rfl
      have b7 := HB7.out.cell (k := 7) rfl
      have b8 := HB7.out.cell (k := 8) rfl
      have b9 := HB7.out.cell (k := 9) rfl
      have p0 := HR7.out.cell (k := 0) rfl
      have z0 := HR7.out.frozen 0
      have p1 := HR7.out.cell (k := 1) rfl
      have z1 := HR7.out.frozen 1
      have p2 := HR7.out.cell (k := 2) rfl
      have z2 := HR7.out.frozen 2
      have p3 := HR7.out.cell (k := 3) rfl
      have z3 := HR7.out.frozen 3
      have p4 := HR7.out.cell (k := 4) rfl
      have z4 := HR7.out.frozen 4
      have p5 := HR7.out.cell (k := 5) rfl
      have z5 := HR7.out.frozen 5
      have p6 := HR7.out.cell (k := 6) rfl
      have z6 := HR7.out.frozen 6
      have p7 := HR7.out.cell (k := 7) rfl
      have z7 := HR7.out.frozen 7
      have p8 := HR7.out.cell (k := 8) rfl
      have z8 := HR7.out.frozen 8
      have p9 := HR7.out.cell (k := 9) rfl
      have z9 := HR7.out.frozen 9
      have HR9 := hid (blk_set10 (.pointer none) (.pointer none) (.slice none 0 0) (.int .i64 0) (.int .i64 0) (.int .i64 0) (.slice none 0 0) (.slice none 0 0) (.slice none 0 0) (.slice none 0 0) HR7.out)
      have HL9 := hid (below_set10 (.pointer none) (.pointer none) (.slice none 0 0) (.int .i64 0) (.int .i64 0) (.int .i64 0) (.slice none 0 0) (.slice none 0 0) (.slice none 0 0) (.slice none 0 0) HL7.out (Nat.le_succ _))
      go_wp2
      have r0 := HR9.out.cell (k := 0) rfl
      have r1 := HR9.out.cell (k := 1) rfl
      have r2 := HR9.out.cell (k := 2) rfl
      have r3 := HR9.out.cell (k := 3) rfl
      have r4 := HR9.out.cell (k := 4) rfl
      have r5 := HR9.out.cell (k := 5) rfl
      have r6 := HR9.out.cell (k := 6) rfl
      have r7 := HR9.out.cell (k := 7) rfl
      have r8 := HR9.out.cell (k := 8) rfl
      have r9 := HR9.out.cell (k := 9) rfl
      refine bodyPost_ret (v := .tuple #[.agg #[.pointer none, .pointer none, .slice none 0 0, .int .i64 0, .int .i64 0, .int .i64 0, .slice none 0 0, .slice none 0 0, .slice none 0 0, .slice none 0 0], .bool false]) (by simp [results, Tryz.results11, go_sem, r0, r1, r2, r3, r4, r5, r6, r7, r8, r9]) rfl ?_
      exact ⟨rfl, HL9.out⟩
set_option maxRecDepth 100000 in
set_option maxHeartbeats 16000000 in
theorem made33_ok (a1 a2 : Option Addr) (c1 c2 : Nat) (H Dt : List UInt8) (Wd D : Int) (Ar : Nat → Option Addr) (cp : Nat → Nat) (C : Nat → List Int) (w : World) (h1 : H.length ≤ c1) (h2 : Dt.length ≤ c2) (h3 : a1 = none → c1 = 0) (h4 : a2 = none → c2 = 0) (hc1 : CellsAt w a1 (H.map bv)) (hc2 : CellsAt w a2 (Dt.map bv)) (hf : FourAt w Ar cp C) (hok : SceneOk H.length Dt.length Wd D C) :
    Calls Tryz.prog 11 #[sceneV a1 H.length c1 a2 Dt.length c2 Wd D Ar cp C] w fun e w' => ∃ F M ar cr, e = .returned (.tuple #[.agg #[.pointer (some ⟨F, 0, none⟩), .pointer (some ⟨M, 0, none⟩), .slice ar (H ++ Dt).length cr, .int .i64 (H.length : Int), .int .i64 Wd, .int .i64 D, .slice (Ar 0) (C 0).length (cp 0), .slice (Ar 1) (C 1).length (cp 1), .slice (Ar 2) (C 2).length (cp 2), .slice (Ar 3) (C 3).length (cp 3)], .bool true]) ∧
      FdAt 76 159 (H ++ Dt) H.length Wd D F w' ∧ PrAt w' M C ∧ CellsAt w' ar ((H ++ Dt).map bv) ∧ (H ++ Dt).length ≤ cr ∧ Below w.heap.size w w' := by
  obtain ⟨g1, g2, g3, g4, g5⟩ := hok
  have hk : 1 ≤ Wd ∧ Wd ≤ 134217728 ∧ 1 ≤ D ∧ D ≤ 4096 := by
    unfold finderOk at g4
    simp only [Bool.and_eq_true, decide_eq_true_eq] at g4
    omega
  have HN := hid (fun W (hW : Below w.heap.size w W) => cnew_ok a1 a2 c1 c2 H Dt Wd D W (by omega) (by omega) h1 h2 h3 h4 (hc1.low hW) (hc2.low hW) hk.1 hk.2.1 hk.2.2.1 hk.2.2.2)
  have HR := hid (fun W (hW : Below w.heap.size w W) => rnew_ok a1 a2 c1 c2 H Dt Wd D W (by omega) (by omega) h1 h2 h3 h4 (hc1.low hW) (hc2.low hW) hk.1 hk.2.1 hk.2.2.1 hk.2.2.2)
  have HP := hid (fun W (hW : Below w.heap.size w W) => prnew_ok Ar cp C W (hf.low hW) g5)
  have HQ := hid (fun W (hW : Below w.heap.size w W) => rpri_ok Ar cp C W (hf.low hW) g5)
  unfold fourV at HQ
  unfold fdv at HR
  have k0 : ¬ (100 : Int) < (H.length : Int) := by omega
  have k1 : ¬ (100 : Int) < (Dt.length : Int) := by omega
  have k2 : ¬ (300 : Int) < ((C 0).length : Int) := by have := g3 0 (by omega); omega
  have k3 : ¬ (300 : Int) < ((C 1).length : Int) := by have := g3 1 (by omega); omega
  have k4 : ¬ (300 : Int) < ((C 2).length : Int) := by have := g3 2 (by omega); omega
  have k5 : ¬ (300 : Int) < ((C 3).length : Int) := by have := g3 3 (by omega); omega
  generalize H ++ Dt = bs at *
  clear h1 h2 h3 h4 hc1 hc2 hf g1 g2 g3 g4 g5 hk
  have hX3 := (((Blk.newAt rfl : Blk (w.alloc (.cells #[.slice a1 H.length c1, .slice a2 Dt.length c2, .int .i64 Wd, .int .i64 D, .slice (Ar 0) (C 0).length (cp 0), .slice (Ar 1) (C 1).length (cp 1), .slice (Ar 2) (C 2).length (cp 2), .slice (Ar 3) (C 3).length (cp 3)] 26)) w.heap.size [.slice a1 H.length c1, .slice a2 Dt.length c2, .int .i64 Wd, .int .i64 D, .slice (Ar 0) (C 0).length (cp 0), .slice (Ar 1) (C 1).length (cp 1), .slice (Ar 2) (C 2).length (cp 2), .slice (Ar 3) (C 3).length (cp 3)] 26).alloc (.cells #[.pointer none, .pointer none, .slice none 0 0, .int .i64 0, .int .i64 0, .int .i64 0, .slice none 0 0, .slice none 0 0, .slice none 0 0, .slice none 0 0] 34)).alloc (.cells #[.pointer none, .pointer none, .slice none 0 0, .int .i64 0, .int .i64 0, .int .i64 0, .slice none 0 0, .slice none 0 0, .slice none 0 0, .slice none 0 0] 34))
  have hR3 := ((Blk.newAt (by simp) : Blk ((w.alloc (.cells #[.slice a1 H.length c1, .slice a2 Dt.length c2, .int .i64 Wd, .int .i64 D, .slice (Ar 0) (C 0).length (cp 0), .slice (Ar 1) (C 1).length (cp 1), .slice (Ar 2) (C 2).length (cp 2), .slice (Ar 3) (C 3).length (cp 3)] 26)).alloc (.cells #[.pointer none, .pointer none, .slice none 0 0, .int .i64 0, .int .i64 0, .int .i64 0, .slice none 0 0, .slice none 0 0, .slice none 0 0, .slice none 0 0] 34)) (w.heap.size + 1) [.pointer none, .pointer none, .slice none 0 0, .int .i64 0, .int .i64 0, .int .i64 0, .slice none 0 0, .slice none 0 0, .slice none 0 0, .slice none 0 0] 34).alloc (.cells #[.pointer none, .pointer none, .slice none 0 0, .int .i64 0, .int .i64 0, .int .i64 0, .slice none 0 0, .slice none 0 0, .slice none 0 0, .slice none 0 0] 34))
  have hB3 := (Blk.newAt (by simp) : Blk (((w.alloc (.cells #[.slice a1 H.length c1, .slice a2 Dt.length c2, .int .i64 Wd, .int .i64 D, .slice (Ar 0) (C 0).length (cp 0), .slice (Ar 1) (C 1).length (cp 1), .slice (Ar 2) (C 2).length (cp 2), .slice (Ar 3) (C 3).length (cp 3)] 26)).alloc (.cells #[.pointer none, .pointer none, .slice none 0 0, .int .i64 0, .int .i64 0, .int .i64 0, .slice none 0 0, .slice none 0 0, .slice none 0 0, .slice none 0 0] 34)).alloc (.cells #[.pointer none, .pointer none, .slice none 0 0, .int .i64 0, .int .i64 0, .int .i64 0, .slice none 0 0, .slice none 0 0, .slice none 0 0, .slice none 0 0] 34)) (w.heap.size + 2) [.pointer none, .pointer none, .slice none 0 0, .int .i64 0, .int .i64 0, .int .i64 0, .slice none 0 0, .slice none 0 0, .slice none 0 0, .slice none 0 0] 34)
  have hL3 : Below w.heap.size w (((w.alloc (.cells #[.slice a1 H.length c1, .slice a2 Dt.length c2, .int .i64 Wd, .int .i64 D, .slice (Ar 0) (C 0).length (cp 0), .slice (Ar 1) (C 1).length (cp 1), .slice (Ar 2) (C 2).length (cp 2), .slice (Ar 3) (C 3).length (cp 3)] 26)).alloc (.cells #[.pointer none, .pointer none, .slice none 0 0, .int .i64 0, .int .i64 0, .int .i64 0, .slice none 0 0, .slice none 0 0, .slice none 0 0, .slice none 0 0] 34)).alloc (.cells #[.pointer none, .pointer none, .slice none 0 0, .int .i64 0, .int .i64 0, .int .i64 0, .slice none 0 0, .slice none 0 0, .slice none 0 0, .slice none 0 0] 34)) := ((below_new w _).alloc (by simp) _).alloc (by simp; omega) _
  have HX3 := hid hX3
  have HR3 := hid hR3
  have HB3 := hid hB3
  have HL3 := hid hL3
  clear hX3 hR3 hB3 hL3
  unfold sceneV
  go_enter Tryz.func11, Tryz.ntmps11
  go_upto_region 2 with fail
  generalize (((w.alloc (.cells #[.slice a1 H.length c1, .slice a2 Dt.length c2, .int .i64 Wd, .int .i64 D, .slice (Ar 0) (C 0).length (cp 0), .slice (Ar 1) (C 1).length (cp 1), .slice (Ar 2) (C 2).length (cp 2), .slice (Ar 3) (C 3).length (cp 3)] 26)).alloc (.cells #[.pointer none, .pointer none, .slice none 0 0, .int .i64 0, .int .i64 0, .int .i64 0, .slice none 0 0, .slice none 0 0, .slice none 0 0, .slice none 0 0] 34)).alloc (.cells #[.pointer none, .pointer none, .slice none 0 0, .int .i64 0, .int .i64 0, .int .i64 0, .slice none 0 0, .slice none 0 0, .slice none 0 0, .slice none 0 0] 34)) = w3 at *
  have x0 := HX3.out.cell (k := 0) rfl
  have x1 := HX3.out.cell (k := 1) rfl
  have x2 := HX3.out.cell (k := 2) rfl
  have x3 := HX3.out.cell (k := 3) rfl
  have x4 := HX3.out.cell (k := 4) rfl
  have x5 := HX3.out.cell (k := 5) rfl
  have x6 := HX3.out.cell (k := 6) rfl
  have x7 := HX3.out.cell (k := 7) rfl
  go_wp2_with fail
  refine (HR.out _ HL3.out).mono ?_
  rintro e w4 ⟨ar, cr, rfl, hcr, hcl, hb4⟩
  have hbn := below_new w4 (.cells #[.slice ar bs.length cr, .int .i64 (H.length : Int), .int .i64 Wd, .int .i64 D] 30)
  have hb5 := hb4.trans (hbn.mono hb4.size)
  have HX5 := hid (HX3.out.below hb5 HX3.out.lt)
  have HR5 := hid (HR3.out.below hb5 HR3.out.lt)
  have HL5 := hid (HL3.out.trans (hb5.mono HL3.out.size))
  have HF5 := hid (Blk.new w4 [.slice ar bs.length cr, .int .i64 (H.length : Int), .int .i64 Wd, .int .i64 D] 30)
  have HC5 := hid (And.intro hcr (hcl.low hbn))
  have HG5 := hid (Nat.lt_of_lt_of_le HR3.out.lt hb4.size)
  clear x0 x1 x2 x3 x4 x5 x6 x7 hb4 hbn hb5 hcr hcl HX3 HR3 HB3 HL3
  go_upto_region 5 with fail
  generalize w4.alloc (.cells #[.slice ar bs.length cr, .int .i64 (H.length : Int), .int .i64 Wd, .int .i64 D] 30) = w5 at *
  generalize w4.heap.size = q5 at *
  have x4 := HX5.out.cell (k := 4) rfl
  have x5 := HX5.out.cell (k := 5) rfl
  have x6 := HX5.out.cell (k := 6) rfl
  have x7 := HX5.out.cell (k := 7) rfl
  go_wp2_with fail
  refine (HQ.out _ HL5.out).mono ?_
  rintro e w6 ⟨rfl, hb6⟩
  have hbn := below_new w6 (.cells #[.slice (Ar 0) (C 0).length (cp 0), .slice (Ar 1) (C 1).length (cp 1), .slice (Ar 2) (C 2).length (cp 2), .slice (Ar 3) (C 3).length (cp 3)] 32)
  have hb7 := hb6.trans (hbn.mono hb6.size)
  have HX7 := hid (HX5.out.below hb7 HX5.out.lt)
  have HR7 := hid (HR5.out.below hb7 HR5.out.lt)
  have HL7 := hid (HL5.out.trans (hb7.mono HL5.out.size))
  have HF7 := hid (HF5.out.below hb7 HF5.out.lt)
  have HC7 := hid (And.intro HC5.out.1 (HC5.out.2.low hb7))
  have HP7 := hid (Blk.new w6 [.slice (Ar 0) (C 0).length (cp 0), .slice (Ar 1) (C 1).length (cp 1), .slice (Ar 2) (C 2).length (cp 2), .slice (Ar 3) (C 3).length (cp 3)] 32)
  have HG7 := hid (Nat.lt_of_lt_of_le HR5.out.lt hb6.size)
  clear x4 x5 x6 x7 hb6 hbn hb7 HX5 HR5 HL5 HF5 HC5
  go_upto_region 8 with fail
  generalize w6.alloc (.cells #[.slice (Ar 0) (C 0).length (cp 0), .slice (Ar 1) (C 1).length (cp 1), .slice (Ar 2) (C 2).length (cp 2), .slice (Ar 3) (C 3).length (cp 3)] 32) = w7 at *
  generalize w6.heap.size = q7 at *
  have x0 := HX7.out.cell (k := 0) rfl
  have x1 := HX7.out.cell (k := 1) rfl
  have x2 := HX7.out.cell (k := 2) rfl
  have x3 := HX7.out.cell (k := 3) rfl
  go_wp2_with fail
  refine (HN.out _ HL7.out).mono ?_
  rintro e w8 ⟨F, rfl, hF, hb8⟩
  have HX8 := hid (HX7.out.below hb8 HX7.out.lt)
  have HR8 := hid (HR7.out.below hb8 HR7.out.lt)
  have HL8 := hid (HL7.out.trans (hb8.mono HL7.out.size))
  have HF8 := hid (HF7.out.below hb8 HF7.out.lt)
  have HP8 := hid (HP7.out.below hb8 HP7.out.lt)
  have HC8 := hid (And.intro HC7.out.1 (HC7.out.2.low hb8))
  have HFd := hid hF
  have HR7l := hid HR7.out.lt
  clear x0 x1 x2 x3 hF hb8 HX7 HR7 HL7 HF7 HP7 HC7
  have x4 := HX8.out.cell (k := 4) rfl
  have x5 := HX8.out.cell (k := 5) rfl
  have x6 := HX8.out.cell (k := 6) rfl
  have x7 := HX8.out.cell (k := 7) rfl
  go_wp2_with fail
  refine (HP.out _ HL8.out).mono ?_
  rintro e w9 ⟨M, rfl, hM, _, hb9⟩
  have HR9 := hid (HR8.out.below hb9 HR8.out.lt)
  have HL9 := hid (HL8.out.trans (hb9.mono HL8.out.size))
  have HF9 := hid (HF8.out.below hb9 HF8.out.lt)
  have HP9 := hid (HP8.out.below hb9 HP8.out.lt)
  have HC9 := hid (And.intro HC8.out.1 (HC8.out.2.low hb9))
  have HFd9 := hid (HFd.out.low hb9)
  have HM9 := hid hM
  clear x4 x5 x6 x7 hM hb9 HX8 HR8 HL8 HF8 HP8 HC8 HFd
  go_wp2_with fail
  refine wp_region_noPanic ?_
  refine wp_region_held_drew (S := (fun W' => Below w.heap.size w W' ∧ Blk W' q5 [.slice ar bs.length cr, .int .i64 (H.length : Int), .int .i64 Wd, .int .i64 D] 30 ∧ Blk W' q7 [.slice (Ar 0) (C 0).length (cp 0), .slice (Ar 1) (C 1).length (cp 1), .slice (Ar 2) (C 2).length (cp 2), .slice (Ar 3) (C 3).length (cp 3)] 32)) (by kernel_rfl) ⟨HL9.out.drew, HF9.out, HP9.out⟩ (fun hHeld => ?_)
  have hd : Below w9.heap.size w9 w9.drew := (Below.refl _ _).drew
  have HRa := hid (HR9.out.below hd HR9.out.lt)
  have HLa := hid (HL9.out.trans (hd.mono HL9.out.size))
  have HFa := hid (HF9.out.below hd HF9.out.lt)
  have HPa := hid (HP9.out.below hd HP9.out.lt)
  have HCa := hid (HC9.out.2.low hd)
  have HFda := hid (HFd9.out.low hd)
  have HMa := hid (HM9.out.low hd)
  generalize w9.drew = wa at *
  clear hd
  refine wpAnyH_take (i := 0) (v := .pointer (some ⟨F, 0, none⟩)) (by simp only [List.getElem?_toArray, List.getElem?_cons_zero]; rfl) (by kernel_rfl) (by kernel_rfl) (by kernel_rfl) (fun _ _ _ h => h) (Or.inl ⟨by rfl, fun W hSw => ?_⟩) (by assumption) ?_
  · clear hSw
    go_simp
  simp only [Act.put, List.setIfInBounds_toArray, List.set_cons_zero, List.set_cons_succ]
  refine wpAnyH_take (i := 1) (v := .pointer (some ⟨M, 0, none⟩)) (by simp only [List.getElem?_toArray, List.getElem?_cons_zero, List.getElem?_cons_succ]; rfl) (by kernel_rfl) (by kernel_rfl) (by kernel_rfl) (fun _ _ _ h => h) (Or.inl ⟨by rfl, fun W hSw => ?_⟩) (by assumption) ?_
  · clear hSw
    go_simp
  simp only [Act.put, List.setIfInBounds_toArray, List.set_cons_zero, List.set_cons_succ]
  refine wpAnyH_take (i := 2) (v := .agg #[.slice ar bs.length cr, .int .i64 (H.length : Int), .int .i64 Wd, .int .i64 D]) (by simp only [List.getElem?_toArray, List.getElem?_cons_zero, List.getElem?_cons_succ]; rfl) (by kernel_rfl) (by kernel_rfl) (by kernel_rfl) (fun _ _ _ h => h) (Or.inl ⟨by rfl, fun W hSw => ?_⟩) (by assumption) ?_
  · have cc0 := hSw.2.1.cell (k := 0) rfl
    have cc1 := hSw.2.1.cell (k := 1) rfl
    have cc2 := hSw.2.1.cell (k := 2) rfl
    have cc3 := hSw.2.1.cell (k := 3) rfl
    clear hSw
    go_simp
  simp only [Act.put, List.setIfInBounds_toArray, List.set_cons_zero, List.set_cons_succ]
  refine wpAnyH_take (i := 3) (v := .agg #[.slice (Ar 0) (C 0).length (cp 0), .slice (Ar 1) (C 1).length (cp 1), .slice (Ar 2) (C 2).length (cp 2), .slice (Ar 3) (C 3).length (cp 3)]) (by simp only [List.getElem?_toArray, List.getElem?_cons_zero, List.getElem?_cons_succ]; rfl) (by kernel_rfl) (by kernel_rfl) (by kernel_rfl) (fun _ _ _ h => h) (Or.inl ⟨by rfl, fun W hSw => ?_⟩) (by assumption) ?_
  · have cc0 := hSw.2.2.cell (k := 0) rfl
    have cc1 := hSw.2.2.cell (k := 1) rfl
    have cc2 := hSw.2.2.cell (k := 2) rfl
    have cc3 := hSw.2.2.cell (k := 3) rfl
    clear hSw
    go_simp
  simp only [Act.put, List.setIfInBounds_toArray, List.set_cons_zero, List.set_cons_succ]
  refine wpAnyH_take (i := 4) (v := .agg #[.pointer (some ⟨F, 0, none⟩), .pointer (some ⟨M, 0, none⟩), .slice ar bs.length cr, .int .i64 (H.length : Int), .int .i64 Wd, .int .i64 D, .slice (Ar 0) (C 0).length (cp 0), .slice (Ar 1) (C 1).length (cp 1), .slice (Ar 2) (C 2).length (cp 2), .slice (Ar 3) (C 3).length (cp 3)]) (by simp only [List.getElem?_toArray, List.getElem?_cons_zero, List.getElem?_cons_succ]; rfl) (by kernel_rfl) (by kernel_rfl) (by kernel_rfl) (fun _ _ _ h => h) (Or.inl ⟨by rfl, fun W hSw => ?_⟩) (by assumption) ?_
  · clear hSw
    go_simp
  simp only [Act.put, List.setIfInBounds_toArray, List.set_cons_zero, List.set_cons_succ]
  refine wpAnyH_take (i := 5) (v := .int .i64 0) (by simp only [List.getElem?_toArray, List.getElem?_cons_zero, List.getElem?_cons_succ]; rfl) (by kernel_rfl) (by kernel_rfl) (by kernel_rfl) (fun _ _ _ h => h) (Or.inl ⟨by rfl, fun W hSw => ?_⟩) (by assumption) ?_
  · clear hSw
    go_simp
  simp only [Act.put, List.setIfInBounds_toArray, List.set_cons_zero, List.set_cons_succ]
  have hw0 : IntKind.i64.wrap 0 = 0 := by decide
  refine wpAnyH_take (i := 7) (v := .int .i64 0) (by simp only [List.getElem?_toArray, List.getElem?_cons_zero, List.getElem?_cons_succ]; rfl) (by kernel_rfl) (by kernel_rfl) (by kernel_rfl) (fun _ _ _ h => h) (Or.inl ⟨by rfl, fun W hSw => ?_⟩) (by assumption) ?_
  · clear hSw
    go_simp
  simp only [Act.put, List.setIfInBounds_toArray, List.set_cons_zero, List.set_cons_succ]
  refine wpAnyH_ready (rs := [6]) (by kernel_rfl) (by simp) ?_
  refine AllReadyH.cons (by simp only [List.getElem?_toArray, List.getElem?_cons_zero, List.getElem?_cons_succ]; rfl) (fun K hK => ?_) AllReadyH.nil
  rw [if_pos (by rfl)]
  go_simp
  go_at_call 17
  refine (num33_any _ _).mono ?_
  rintro e w' ⟨rfl, rfl⟩
  dsimp only
  refine hK.out _ _ ⟨HLa.out, HFa.out, HPa.out⟩ (fun _ => ?_)
  clear hK K
  refine wpAnyH_ready (rs := [8]) (by kernel_rfl) (by simp) ?_
  refine AllReadyH.cons (by simp only [List.getElem?_toArray, List.getElem?_cons_zero, List.getElem?_cons_succ]; rfl) (fun K hK => ?_) AllReadyH.nil
  rw [if_pos (by rfl)]
  go_simp
  go_at_call 17
  refine (num33_any _ _).mono ?_
  rintro e w' ⟨rfl, rfl⟩
  dsimp only
  refine hK.out _ _ ⟨HLa.out, HFa.out, HPa.out⟩ (fun _ => ?_)
  clear hK K
  refine wpAnyH_take (i := 9) (v := .int .i64 0) (by simp only [List.getElem?_toArray, List.getElem?_cons_zero, List.getElem?_cons_succ]; rfl) (by kernel_rfl) (by kernel_rfl) (by kernel_rfl) (fun _ _ _ h => h) (Or.inl ⟨by rfl, fun W hSw => ?_⟩) (by assumption) ?_
  · clear hSw
    go_simp
  simp only [Act.put, List.setIfInBounds_toArray, List.set_cons_zero, List.set_cons_succ]
  refine wpAnyH_take (i := 10) (v := .bool true) (by simp only [List.getElem?_toArray, List.getElem?_cons_zero, List.getElem?_cons_succ]; rfl) (by kernel_rfl) (by kernel_rfl) (by kernel_rfl) (fun _ _ _ h => h) (Or.inl ⟨by rfl, fun W hSw => ?_⟩) (by assumption) ?_
  · clear hSw
    go_simp
  simp only [Act.put, List.setIfInBounds_toArray, List.set_cons_zero, List.set_cons_succ]
  have p0 := HRa.out.cell (k := 0) rfl
  have z0 := HRa.out.frozen 0
  have p1 := HRa.out.cell (k := 1) rfl
  have z1 := HRa.out.frozen 1
  have p2 := HRa.out.cell (k := 2) rfl
  have z2 := HRa.out.frozen 2
  have p3 := HRa.out.cell (k := 3) rfl
  have z3 := HRa.out.frozen 3
  have p4 := HRa.out.cell (k := 4) rfl
  have z4 := HRa.out.frozen 4
  have p5 := HRa.out.cell (k := 5) rfl
  have z5 := HRa.out.frozen 5
  have p6 := HRa.out.cell (k := 6) rfl
  have z6 := HRa.out.frozen 6
  have p7 := HRa.out.cell (k := 7) rfl
  have z7 := HRa.out.frozen 7
  have p8 := HRa.out.cell (k := 8) rfl
  have z8 := HRa.out.frozen 8
  have p9 := HRa.out.cell (k := 9) rfl
  have z9 := HRa.out.frozen 9
  have HRb := hid (blk_set10 (.pointer (some ⟨F, 0, none⟩)) (.pointer (some ⟨M, 0, none⟩)) (.slice ar bs.length cr) (.int .i64 (H.length : Int)) (.int .i64 Wd) (.int .i64 D) (.slice (Ar 0) (C 0).length (cp 0)) (.slice (Ar 1) (C 1).length (cp 1)) (.slice (Ar 2) (C 2).length (cp 2)) (.slice (Ar 3) (C 3).length (cp 3)) HRa.out)
  have HLb := hid (below_set10 (.pointer (some ⟨F, 0, none⟩)) (.pointer (some ⟨M, 0, none⟩)) (.slice ar bs.length cr) (.int .i64 (H.length : Int)) (.int .i64 Wd) (.int .i64 D) (.slice (Ar 0) (C 0).length (cp 0)) (.slice (Ar 1) (C 1).length (cp 1)) (.slice (Ar 2) (C 2).length (cp 2)) (.slice (Ar 3) (C 3).length (cp 3)) HLa.out (Nat.le_succ _))
  have hn5 : w.heap.size + 1 ≠ q5 := by have := HG5.out; omega
  have hn7 : w.heap.size + 1 ≠ q7 := by have := HG7.out; omega
  have HFb := hid (blk_other10 (.pointer (some ⟨F, 0, none⟩)) (.pointer (some ⟨M, 0, none⟩)) (.slice ar bs.length cr) (.int .i64 (H.length : Int)) (.int .i64 Wd) (.int .i64 D) (.slice (Ar 0) (C 0).length (cp 0)) (.slice (Ar 1) (C 1).length (cp 1)) (.slice (Ar 2) (C 2).length (cp 2)) (.slice (Ar 3) (C 3).length (cp 3)) HFa.out hn5)
  have HPb := hid (blk_other10 (.pointer (some ⟨F, 0, none⟩)) (.pointer (some ⟨M, 0, none⟩)) (.slice ar bs.length cr) (.int .i64 (H.length : Int)) (.int .i64 Wd) (.int .i64 D) (.slice (Ar 0) (C 0).length (cp 0)) (.slice (Ar 1) (C 1).length (cp 1)) (.slice (Ar 2) (C 2).length (cp 2)) (.slice (Ar 3) (C 3).length (cp 3)) HPa.out hn7)
  have HCb := hid (cells_set10 (.pointer (some ⟨F, 0, none⟩)) (.pointer (some ⟨M, 0, none⟩)) (.slice ar bs.length cr) (.int .i64 (H.length : Int)) (.int .i64 Wd) (.int .i64 D) (.slice (Ar 0) (C 0).length (cp 0)) (.slice (Ar 1) (C 1).length (cp 1)) (.slice (Ar 2) (C 2).length (cp 2)) (.slice (Ar 3) (C 3).length (cp 3)) HCa.out HRa.out (fun u hu => by
    obtain ⟨x, _, rfl⟩ := List.mem_map.1 hu
    unfold bv
    simp))
  have HFdb := hid (fds_set10 (.pointer (some ⟨F, 0, none⟩)) (.pointer (some ⟨M, 0, none⟩)) (.slice ar bs.length cr) (.int .i64 (H.length : Int)) (.int .i64 Wd) (.int .i64 D) (.slice (Ar 0) (C 0).length (cp 0)) (.slice (Ar 1) (C 1).length (cp 1)) (.slice (Ar 2) (C 2).length (cp 2)) (.slice (Ar 3) (C 3).length (cp 3)) HFda.out HR7l.out)
  have HMb := hid (pr_set10 (.pointer (some ⟨F, 0, none⟩)) (.pointer (some ⟨M, 0, none⟩)) (.slice ar bs.length cr) (.int .i64 (H.length : Int)) (.int .i64 Wd) (.int .i64 D) (.slice (Ar 0) (C 0).length (cp 0)) (.slice (Ar 1) (C 1).length (cp 1)) (.slice (Ar 2) (C 2).length (cp 2)) (.slice (Ar 3) (C 3).length (cp 3)) HMa.out HRa.out (by decide) (by decide) (by decide))
  refine wpAnyH_ready (rs := [11]) (by kernel_rfl) (by simp) ?_
  refine AllReadyH.cons (by simp only [List.getElem?_toArray, List.getElem?_cons_zero, List.getElem?_cons_succ]; rfl) (fun K hK => ?_) AllReadyH.nil
  rw [if_pos (by rfl)]
  go_simp
  refine hK.out _ _ ⟨HLb.out, HFb.out, HPb.out⟩ (fun _ => ?_)
  clear hK K
  refine wpAnyH_ready (rs := [12]) (by kernel_rfl) (by simp) ?_
  refine AllReadyH.cons (by simp only [List.getElem?_toArray, List.getElem?_cons_zero, List.getElem?_cons_succ]; rfl) (fun K hK => ?_) AllReadyH.nil
  rw [if_pos (by rfl)]
  go_simp
  refine hK.out _ _ ⟨HLb.out, HFb.out, HPb.out⟩ (fun _ => ?_)
  clear hK K
  refine wpAnyH_done (by kernel_rfl) ?_ _
  refine NoPanic.normal ?_
  clear p0 z0 p1 z1 p2 z2 p3 z3 p4 z4 p5 z5 p6 z6 p7 z7 p8 z8 p9 z9
  go_wp2
  have r0 := HRb.out.cell (k := 0) rfl
  have r1 := HRb.out.cell (k := 1) rfl
  have r2 := HRb.out.cell (k := 2) rfl
  have r3 := HRb.out.cell (k := 3) rfl
  have r4 := HRb.out.cell (k := 4) rfl
  have r5 := HRb.out.cell (k := 5) rfl
  have r6 := HRb.out.cell (k := 6) rfl
  have r7 := HRb.out.cell (k := 7) rfl
  have r8 := HRb.out.cell (k := 8) rfl
  have r9 := HRb.out.cell (k := 9) rfl
  refine bodyPost_ret (v := .tuple #[.agg #[.pointer (some ⟨F, 0, none⟩), .pointer (some ⟨M, 0, none⟩), .slice ar bs.length cr, .int .i64 (H.length : Int), .int .i64 Wd, .int .i64 D, .slice (Ar 0) (C 0).length (cp 0), .slice (Ar 1) (C 1).length (cp 1), .slice (Ar 2) (C 2).length (cp 2), .slice (Ar 3) (C 3).length (cp 3)], .bool true]) (by simp [results, Tryz.results11, go_sem, r0, r1, r2, r3, r4, r5, r6, r7, r8, r9]) rfl ?_
  exact ⟨F, M, ar, cr, rfl, HFdb.out.at, HMb.out, HCb.out, HC9.out.1, HLb.out⟩
end Go.Proofs.YtiagbejfghincaaGreat
