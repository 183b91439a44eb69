/-
  The walks of layer 29, fifth part: the candidates of a position; the match found.
-/
import Derived.Test.YtngphgdoolcpcaaChE
import Derived.Test.YtngphgdoolcpcaaMatchG
namespace Go.Port
open Go.RowKit
/-- The candidates of a position of the data. -/
def candL (bs : List UInt8) (A : Nat) (W D p : Int) : List Nat := if 0 ≤ p ∧ p ≤ (bs.length : Int) - A then candS bs (A + p.toNat) W D else []
theorem candL_length (bs : List UInt8) (A : Nat) (W D p : Int) : (candL bs A W D p).length ≤ bs.length := by
  unfold candL
  split
  · have := candS_length bs (A + p.toNat) W D
    omega
  · simp
theorem candL_deep (bs : List UInt8) (A : Nat) (W D p : Int) (hD : 0 ≤ D) : ((candL bs A W D p).length : Int) ≤ D := by
  unfold candL candS
  split
  · split
    · exact (@candGo_length _ W (hits bs _) D).2 hD
    · simpa using hD
  · simpa using hD
theorem chainS_le {bs : List UInt8} {p : Int} {q : Nat} (h : q ∈ chainS bs p) : q < bs.length := by
  unfold chainS at h
  split at h
  · have := (hitsGo_lt bs _ _ q h).1
    omega
  · simp at h
theorem candL_le {bs : List UInt8} {A : Nat} {W D p : Int} {q : Nat} (h : q ∈ candL bs A W D p) : q < bs.length := by
  unfold candL at h
  split at h
  · have := candS_mem h
    omega
  · simp at h
theorem natI_map (l : List Nat) : l.map natI = (l.map fun (p : Nat) => (p : Int)).map iv := by
  rw [List.map_map]
  rfl
end Go.Port
namespace Go.Proofs.Ytngphgdoolcpcaa
open Go.RowKit Go.Port

set_option maxRecDepth 100000 in
set_option maxHeartbeats 2000000 in
theorem ccand_any (bs : List UInt8) (A : Nat) (W D : Int) (F : Nat) (p : Int) (w : World) (h : FdAt 57 119 bs A W D F w) :
    Calls Try.prog 32 #[.pointer (some ⟨F, 0, none⟩), .int .i64 p] w fun e w' => ∃ v, e = .returned v ∧ w'.ownsRow w.heap.size 3 1 v (candL bs A W D p).length ((candL bs A W D p).map natI) ∧ Below w.heap.size w w' := by
  have hbx := Blk.new w [.pointer (some ⟨F, 0, none⟩)] 23
  have hB1 := below_new w (.cells #[.pointer (some ⟨F, 0, none⟩)] 23)
  have HOw := hid (cown_any bs A W D F p _ (h.low hB1))
  have HF := hid (h.low hB1)
  have HBx := hid hbx
  have HB1 := hid hB1
  clear h hbx hB1
  by_cases hc : 0 ≤ p ∧ p ≤ (bs.length : Int) - A
  · rw [if_pos hc] at HOw
    obtain ⟨P, rfl⟩ : ∃ P : Nat, p = (P : Int) := ⟨p.toNat, by omega⟩
    have hcl : candL bs A W D (P : Int) = candGo (A + P) W D (chainS bs ((A + P : Nat) : Int)) := by
      unfold candL
      rw [if_pos hc, Int.toNat_natCast, candS_chain]
    have HCl := hid hcl
    have hn := HF.out.hn
    have hA := HF.out.hA
    have hAP : ((A : Int) + (P : Int)) = ((A + P : Nat) : Int) := by omega
    rw [hAP] at HOw
    have HAP := hid (show A + P ≤ 1000000 by omega)
    have HN := hid hn
    clear hc hcl hAP hn hA
    generalize A + P = own at *
    go_enter Try.func32, Try.ntmps32
    go_wp2_with fail
    refine HOw.out.mono ?_
    rintro e w' ⟨rfl, m, rfl⟩
    have hF1 := HF.out.drew m
    have hbx1 : Blk ((w.alloc (.cells #[.pointer (some ⟨F, 0, none⟩)] 23)).drewN m) w.heap.size [.pointer (some ⟨F, 0, none⟩)] 23 := HBx.out
    have hB2 := below_drewN HB1.out m
    generalize ((w.alloc (.cells #[.pointer (some ⟨F, 0, none⟩)] 23)).drewN m) = w1 at *
    obtain ⟨X, va, ca, f1, f2, f3, f4, f5⟩ := hF1.ex
    have q0 := f1.cell (k := 0) rfl
    have x0 := hbx1.cell (k := 0) rfl
    have HCh := hid (xchain_any bs X (own : Int) w1 HN.out f2)
    have HF1 := hid hF1
    have HX1 := hid hbx1
    have HB2 := hid hB2
    clear hF1 hbx1 hB2 f1 f2 f3 f4 f5 HF HBx HB1
    go_wp2_with fail
    refine HCh.out.mono ?_
    rintro e w2 ⟨g, k, a, c, rfl, hg, hk, hcl, hb⟩
    have hll := chainS_length bs (own : Int)
    have HG := hid (cgath_any bs A W D F w.heap.size g k own a c (chainS bs (own : Int)) w2 (HF1.out.low hb) ((HX1.out.below hb HX1.out.lt).cell (k := 0) rfl) (by have := HN.out; omega) HAP.out (fun x hx => by have := chainS_le hx; have := HN.out; omega) (hg.cell (k := 0) rfl) (hk.cell (k := 0) rfl) hcl)
    have HB3 := hid (HB2.out.trans (hb.mono HB2.out.size))
    have hs3 := HB3.out.size
    clear hg hk hcl hb hll HX1 HF1 HCh q0 x0
    go_wp2_with fail
    refine HG.out.mono ?_
    rintro e w3 ⟨v, rfl, hown, hb⟩
    have HO := hid (own_le hown (show w.heap.size ≤ w2.heap.size + 2 by omega))
    have HB4 := hid (HB3.out.trans (hb.mono HB3.out.size))
    clear hown hb HG
    go_wp2
    go_ret
    rw [HCl.out]
    exact ⟨_, rfl, HO.out, HB4.out⟩
  · rw [if_neg hc] at HOw
    have hcl : candL bs A W D p = [] := by
      unfold candL
      rw [if_neg hc]
    rw [hcl]
    clear hcl hc
    go_enter Try.func32, Try.ntmps32
    go_wp2_with fail
    refine HOw.out.mono ?_
    rintro e w' ⟨rfl, m, rfl⟩
    have HB2 := hid (below_drewN HB1.out m)
    go_wp2
    go_ret
    exact ⟨_, rfl, World.ownsRow_nil _ _ _ _, HB2.out⟩

set_option maxRecDepth 100000 in
set_option maxHeartbeats 4000000 in
theorem cfind_any (bs : List UInt8) (A : Nat) (W D : Int) (F : Nat) (p : Int) (w : World) (h : FdAt 57 119 bs A W D F w) :
    Calls Try.prog 21 #[.pointer (some ⟨F, 0, none⟩), .int .i64 p] w (RetV w (.tuple #[sqv ((findS bs A W D p).getD Sq.zero), .bool (findS bs A W D p).isSome])) := by
  have hbx := Blk.new w [.int .i64 0, .int .i64 0, .int .i64 0] 45
  have hB1 := below_new w (.cells #[.int .i64 0, .int .i64 0, .int .i64 0] 45)
  have HCa := hid (ccand_any bs A W D F p _ (h.low hB1))
  have HF := hid (h.low hB1)
  have HBx := hid hbx
  have HB1 := hid hB1
  have hll : (candL bs A W D p).length ≤ 4096 := by have := candL_deep bs A W D p (by have := h.hD; omega); have := h.hD; omega
  have HLl := hid hll
  clear h hbx hB1 hll
  by_cases h0 : (candL bs A W D p).length = 0
  · have hn0 : candL bs A W D p = [] := List.eq_nil_of_length_eq_zero h0
    have hf : findS bs A W D p = none := by
      unfold findS
      unfold candL at hn0
      split
      · rename_i hc
        rw [if_pos hc] at hn0
        rw [hn0]
        rfl
      · rfl
    rw [hf]
    rw [hn0] at HCa
    clear h0 hn0 hf HLl
    go_enter Try.func21, Try.ntmps21
    go_wp2_with fail
    refine HCa.out.mono ?_
    rintro e w1 ⟨v, rfl, hown, hb⟩
    obtain ⟨av, cv, rfl⟩ := own_slice hown
    have hx1 := HBx.out.below hb HBx.out.lt
    have z0 := hx1.frozen 0
    have z1 := hx1.frozen 1
    have z2 := hx1.frozen 2
    have p0 := hx1.cell (k := 0) rfl
    have p1 := hx1.cell (k := 1) rfl
    have p2 := hx1.cell (k := 2) rfl
    have HX := hid (((hx1.set 0 (.int .i64 0)).set 1 (.int .i64 0)).set 2 (.int .i64 0))
    have hb1 := HB1.out.trans (hb.mono HB1.out.size)
    have HB := hid (((hb1.setCell (p := ⟨w.heap.size, 0, none⟩) (Nat.le_refl _) (.int .i64 0)).setCell (p := ⟨w.heap.size, 1, none⟩) (Nat.le_refl _) (.int .i64 0)).setCell (p := ⟨w.heap.size, 2, none⟩) (Nat.le_refl _) (.int .i64 0))
    clear hown hb hx1 hb1
    go_wp2
    have r0 := HX.out.cell (k := 0) rfl
    have r1 := HX.out.cell (k := 1) rfl
    have r2 := HX.out.cell (k := 2) rfl
    have hb9 := HB.out
    clear HX HB z0 z1 z2 p0 p1 p2
    generalize ((w1.setCell ⟨w.heap.size, 0, none⟩ (.int .i64 0)).setCell ⟨w.heap.size, 1, none⟩ (.int .i64 0)).setCell ⟨w.heap.size, 2, none⟩ (.int .i64 0) = W9 at *
    refine bodyPost_ret (v := .tuple #[.agg #[.int .i64 0, .int .i64 0, .int .i64 0], .bool false]) (by simp [results, Try.results21, go_sem, r0, r1, r2]) rfl ?_
    exact ⟨rfl, hb9⟩
  · have hc : 0 ≤ p ∧ p ≤ (bs.length : Int) - A := by
      by_cases hc : 0 ≤ p ∧ p ≤ (bs.length : Int) - A
      · exact hc
      · exact absurd (by unfold candL; rw [if_neg hc]; rfl) h0
    obtain ⟨P, rfl⟩ : ∃ P : Nat, p = (P : Int) := ⟨p.toNat, by omega⟩
    have hfd : findS bs A W D (P : Int) = bestS bs ((A + P : Nat) : Int) bs.length ((candL bs A W D (P : Int)).map fun (q : Nat) => (q : Int)) := by
      unfold findS candL
      rw [if_pos hc, if_pos hc, Int.toNat_natCast]
    have HOw := hid (fun W' (hW : Below w.heap.size w W') (hF : FdAt 57 119 bs A W D F W') => cown_any bs A W D F (P : Int) W' hF)
    rw [if_pos hc] at HOw
    have hAP : ((A : Int) + (P : Int)) = ((A + P : Nat) : Int) := by omega
    rw [hAP] at HOw
    rw [hfd]
    have hn := HF.out.hn
    have HL0 := hid h0
    have HN := hid hn
    have hlen0 : ((candL bs A W D (P : Int)).length : Int) ≠ 0 := by omega
    have hlenb : (((candL bs A W D (P : Int)).length : Int) == 0) = false := by simpa using h0
    clear hfd hc hAP h0 hlen0
    generalize A + P = own at *
    generalize candL bs A W D (P : Int) = l at *
    go_enter Try.func21, Try.ntmps21
    go_wp2_with fail
    refine HCa.out.mono ?_
    rintro e w1 ⟨v, rfl, hown, hb⟩
    obtain ⟨av, cv, rfl⟩ := own_slice hown
    have hF1 := HF.out.low hb
    have hB1 := HB1.out.trans (hb.mono HB1.out.size)
    have hX1 := HBx.out.below hb HBx.out.lt
    have HO1 := hid hown
    have HF1 := hid hF1
    have HB2 := hid hB1
    have HX1 := hid hX1
    clear hown hb hF1 hB1 hX1 HCa HF HBx HB1
    go_wp2_with fail
    refine (HOw.out w1 HB2.out HF1.out).mono ?_
    rintro e w' ⟨rfl, m, rfl⟩
    have hF3 := HF1.out.drew m
    have hX3 : Blk (w1.drewN m) w.heap.size [.int .i64 0, .int .i64 0, .int .i64 0] 45 := HX1.out
    have hB3 := below_drewN HB2.out m
    have hO3 : (w1.drewN m).ownsRow (w.alloc (.cells #[.int .i64 0, .int .i64 0, .int .i64 0] 45)).heap.size 3 1 (.slice av l.length cv) l.length (l.map natI) := HO1.out
    generalize w1.drewN m = w3 at *
    obtain ⟨X, va, ca, f1, f2, f3, f4, f5⟩ := hF3.ex
    have f1l := f1.lt
    have hXl := hX3.lt
    have hcp := (Sl.of_owns hO3).cap rfl
    have hl1 : l.length ≤ cv := hcp.1
    have HBe := hid (fun W' (hW : Below w3.heap.size w3 W') => best_any va av ca l.length bs (own : Int) bs.length (l.map fun (q : Nat) => (q : Int)) W' (by have := HN.out; omega) f3 (by have := HLl.out; simp; omega) (f5.low hW) (by
      rw [← natI_map]
      exact ((Sl.of_owns hO3).cells' rfl).low hW))
    rw [List.length_map] at HBe
    have HB3 := hid hB3
    have HX3 := hid hX3
    have hlI : (l.length : Int) ≤ 9223372036854775807 := by have := HLl.out; have := HN.out; omega
    generalize hoo : bestS bs (own : Int) bs.length (l.map fun (q : Nat) => (q : Int)) = o at *
    have HOo := hid hoo
    clear hoo
    have HBe2 := hid (fun W' (hW : Below w3.heap.size w3 W') => (show Calls Try.prog 34 #[.slice va bs.length ca, .int .i64 (own : Int), .int .i64 (bs.length : Int), .slice av l.length l.length] W' (RetV W' (.tuple #[.agg #[.int .i64 (o.getD Sq.zero).lit, .int .i64 (o.getD Sq.zero).len, .int .i64 (o.getD Sq.zero).off], .bool o.isSome])) from HBe.out W' hW))
    clear hF3 hX3 hB3 hO3 f2 f4 f5 hcp HBe HO1 HF1 HB2 HX1 HOw
    go_wp2_with fail
    have g1 := f1.cell (k := 1) rfl
    have HL1 := hid hl1
    have HLen := hid hlenb
    clear hlenb hl1
    have hFX := blk_ne f1 HX3.out (by decide)
    refine wp_region_noPanic ?_
    refine wp_region_held_drew (S := fun W' => W'.cell? ⟨F, 1, none⟩ = some (.slice va bs.length ca)) (by kernel_rfl) g1 (fun hHeld => ?_)
    refine wpAnyH_take (i := 0) (v := .pointer (some ⟨F, 0, none⟩)) (by simp only [List.getElem?_toArray, List.getElem?_cons_zero]; rfl) (by kernel_rfl) (by kernel_rfl) (by kernel_rfl) (fun _ _ _ h => h) (Or.inl ⟨by rfl, fun W hSw => ?_⟩) (by assumption) ?_
    · clear hSw
      go_simp
    simp only [Act.put, List.setIfInBounds_toArray, List.set_cons_zero, List.set_cons_succ]
    refine wpAnyH_take (i := 1) (v := .pointer (some ⟨F, 0, none⟩)) (by simp only [List.getElem?_toArray, List.getElem?_cons_zero, List.getElem?_cons_succ]; rfl) (by kernel_rfl) (by kernel_rfl) (by kernel_rfl) (fun _ _ _ h => h) (Or.inl ⟨by rfl, fun W hSw => ?_⟩) (by assumption) ?_
    · clear hSw
      go_simp
    simp only [Act.put, List.setIfInBounds_toArray, List.set_cons_zero, List.set_cons_succ]
    refine wpAnyH_take (i := 2) (v := .pointer (some ⟨F, 1, none⟩)) (by simp only [List.getElem?_toArray, List.getElem?_cons_zero, List.getElem?_cons_succ]; rfl) (by kernel_rfl) (by kernel_rfl) (by kernel_rfl) (fun _ _ _ h => h) (Or.inl ⟨by rfl, fun W hSw => ?_⟩) (by assumption) ?_
    · clear hSw
      go_simp
    simp only [Act.put, List.setIfInBounds_toArray, List.set_cons_zero, List.set_cons_succ]
    refine wpAnyH_take (i := 3) (v := .slice va bs.length ca) (by simp only [List.getElem?_toArray, List.getElem?_cons_zero, List.getElem?_cons_succ]; rfl) (by kernel_rfl) (by kernel_rfl) (by kernel_rfl) (fun _ _ _ h => h) (Or.inl ⟨by rfl, fun W hSw => ?_⟩) (by assumption) ?_
    · have hcw := hSw
      go_simp
    simp only [Act.put, List.setIfInBounds_toArray, List.set_cons_zero, List.set_cons_succ]
    refine wpAnyH_take (i := 4) (v := .int .i64 (own : Int)) (by simp only [List.getElem?_toArray, List.getElem?_cons_zero, List.getElem?_cons_succ]; rfl) (by kernel_rfl) (by kernel_rfl) (by kernel_rfl) (fun _ _ _ h => h) (Or.inl ⟨by rfl, fun W hSw => ?_⟩) (by assumption) ?_
    · clear hSw
      go_simp
    simp only [Act.put, List.setIfInBounds_toArray, List.set_cons_zero, List.set_cons_succ]
    refine wpAnyH_take (i := 5) (v := .pointer (some ⟨F, 0, none⟩)) (by simp only [List.getElem?_toArray, List.getElem?_cons_zero, List.getElem?_cons_succ]; rfl) (by kernel_rfl) (by kernel_rfl) (by kernel_rfl) (fun _ _ _ h => h) (Or.inl ⟨by rfl, fun W hSw => ?_⟩) (by assumption) ?_
    · clear hSw
      go_simp
    simp only [Act.put, List.setIfInBounds_toArray, List.set_cons_zero, List.set_cons_succ]
    refine wpAnyH_take (i := 6) (v := .pointer (some ⟨F, 0, none⟩)) (by simp only [List.getElem?_toArray, List.getElem?_cons_zero, List.getElem?_cons_succ]; rfl) (by kernel_rfl) (by kernel_rfl) (by kernel_rfl) (fun _ _ _ h => h) (Or.inl ⟨by rfl, fun W hSw => ?_⟩) (by assumption) ?_
    · clear hSw
      go_simp
    simp only [Act.put, List.setIfInBounds_toArray, List.set_cons_zero, List.set_cons_succ]
    refine wpAnyH_take (i := 7) (v := .pointer (some ⟨F, 1, none⟩)) (by simp only [List.getElem?_toArray, List.getElem?_cons_zero, List.getElem?_cons_succ]; rfl) (by kernel_rfl) (by kernel_rfl) (by kernel_rfl) (fun _ _ _ h => h) (Or.inl ⟨by rfl, fun W hSw => ?_⟩) (by assumption) ?_
    · clear hSw
      go_simp
    simp only [Act.put, List.setIfInBounds_toArray, List.set_cons_zero, List.set_cons_succ]
    refine wpAnyH_take (i := 8) (v := .slice va bs.length ca) (by simp only [List.getElem?_toArray, List.getElem?_cons_zero, List.getElem?_cons_succ]; rfl) (by kernel_rfl) (by kernel_rfl) (by kernel_rfl) (fun _ _ _ h => h) (Or.inl ⟨by rfl, fun W hSw => ?_⟩) (by assumption) ?_
    · have hcw := hSw
      go_simp
    simp only [Act.put, List.setIfInBounds_toArray, List.set_cons_zero, List.set_cons_succ]
    refine wpAnyH_take (i := 9) (v := .int .i64 (bs.length : Int)) (by simp only [List.getElem?_toArray, List.getElem?_cons_zero, List.getElem?_cons_succ]; rfl) (by kernel_rfl) (by kernel_rfl) (by kernel_rfl) (fun _ _ _ h => h) (Or.inl ⟨by rfl, fun W hSw => ?_⟩) (by assumption) ?_
    · clear hSw
      go_simp
    simp only [Act.put, List.setIfInBounds_toArray, List.set_cons_zero, List.set_cons_succ]
    refine wpAnyH_take (i := 10) (v := .slice av l.length cv) (by simp only [List.getElem?_toArray, List.getElem?_cons_zero, List.getElem?_cons_succ]; rfl) (by kernel_rfl) (by kernel_rfl) (by kernel_rfl) (fun _ _ _ h => h) (Or.inl ⟨by rfl, fun W hSw => ?_⟩) (by assumption) ?_
    · clear hSw
      go_simp
    simp only [Act.put, List.setIfInBounds_toArray, List.set_cons_zero, List.set_cons_succ]
    refine wpAnyH_take (i := 11) (v := .slice av l.length cv) (by simp only [List.getElem?_toArray, List.getElem?_cons_zero, List.getElem?_cons_succ]; rfl) (by kernel_rfl) (by kernel_rfl) (by kernel_rfl) (fun _ _ _ h => h) (Or.inl ⟨by rfl, fun W hSw => ?_⟩) (by assumption) ?_
    · clear hSw
      go_simp
    simp only [Act.put, List.setIfInBounds_toArray, List.set_cons_zero, List.set_cons_succ]
    refine wpAnyH_take (i := 12) (v := .int .i64 (l.length : Int)) (by simp only [List.getElem?_toArray, List.getElem?_cons_zero, List.getElem?_cons_succ]; rfl) (by kernel_rfl) (by kernel_rfl) (by kernel_rfl) (fun _ _ _ h => h) (Or.inl ⟨by rfl, fun W hSw => ?_⟩) (by assumption) ?_
    · clear hSw
      go_simp
    simp only [Act.put, List.setIfInBounds_toArray, List.set_cons_zero, List.set_cons_succ]
    refine wpAnyH_take (i := 13) (v := .slice av l.length cv) (by simp only [List.getElem?_toArray, List.getElem?_cons_zero, List.getElem?_cons_succ]; rfl) (by kernel_rfl) (by kernel_rfl) (by kernel_rfl) (fun _ _ _ h => h) (Or.inl ⟨by rfl, fun W hSw => ?_⟩) (by assumption) ?_
    · clear hSw
      go_simp
    simp only [Act.put, List.setIfInBounds_toArray, List.set_cons_zero, List.set_cons_succ]
    refine wpAnyH_take (i := 14) (v := .int .i64 (l.length : Int)) (by simp only [List.getElem?_toArray, List.getElem?_cons_zero, List.getElem?_cons_succ]; rfl) (by kernel_rfl) (by kernel_rfl) (by kernel_rfl) (fun _ _ _ h => h) (Or.inl ⟨by rfl, fun W hSw => ?_⟩) (by assumption) ?_
    · clear hSw
      go_simp
    simp only [Act.put, List.setIfInBounds_toArray, List.set_cons_zero, List.set_cons_succ]
    refine wpAnyH_take (i := 15) (v := .slice av l.length l.length) (by simp only [List.getElem?_toArray, List.getElem?_cons_zero, List.getElem?_cons_succ]; rfl) (by kernel_rfl) (by kernel_rfl) (by kernel_rfl) (fun _ _ _ h => h) (Or.inl ⟨by rfl, fun W hSw => ?_⟩) (by assumption) ?_
    · have hcv := HL1.out
      go_simp
    simp only [Act.put, List.setIfInBounds_toArray, List.set_cons_zero, List.set_cons_succ]
    refine wpAnyH_ready (rs := [16]) (by kernel_rfl) (by simp) ?_
    refine AllReadyH.cons (by simp only [List.getElem?_toArray, List.getElem?_cons_zero, List.getElem?_cons_succ]; rfl) (fun K hK => ?_) AllReadyH.nil
    rw [if_pos (by rfl)]
    go_simp
    go_at_call 34
    refine (HBe2.out w3.drew (Below.refl _ _).drew).mono ?_
    rintro e w5 ⟨rfl, hb5⟩
    dsimp only
    have hb35 : Below w3.heap.size w3 w5 := (show Below w3.heap.size w3 w3.drew from (Below.refl _ _).drew).trans hb5
    have g5 := (hb35.cell (p := ⟨F, 1, none⟩) f1l).trans g1
    refine hK.out _ _ g5 (fun _ => ?_)
    clear hK K
    have hX5 := HX3.out.below hb35 HX3.out.lt
    have z0 := hX5.frozen 0
    have z1 := hX5.frozen 1
    have z2 := hX5.frozen 2
    have p0 := hX5.cell (k := 0) rfl
    have p1 := hX5.cell (k := 1) rfl
    have p2 := hX5.cell (k := 2) rfl
    have HX := hid (((hX5.set 0 (.int .i64 (o.getD Sq.zero).lit)).set 1 (.int .i64 (o.getD Sq.zero).len)).set 2 (.int .i64 (o.getD Sq.zero).off))
    have hb6 := HB3.out.trans (hb35.mono HB3.out.size)
    have HB := hid (((hb6.setCell (p := ⟨w.heap.size, 0, none⟩) (Nat.le_refl _) (.int .i64 (o.getD Sq.zero).lit)).setCell (p := ⟨w.heap.size, 1, none⟩) (Nat.le_refl _) (.int .i64 (o.getD Sq.zero).len)).setCell (p := ⟨w.heap.size, 2, none⟩) (Nat.le_refl _) (.int .i64 (o.getD Sq.zero).off))
    have hFl5 : F < w5.heap.size := Nat.lt_of_lt_of_le f1l hb35.size
    have hf6 := ((((f1.below hb35 f1l).other (a := ⟨w.heap.size, 0, none⟩) (.int .i64 (o.getD Sq.zero).lit) (Ne.symm hFX)).other (a := ⟨w.heap.size, 1, none⟩) (.int .i64 (o.getD Sq.zero).len) (Ne.symm hFX)).other (a := ⟨w.heap.size, 2, none⟩) (.int .i64 (o.getD Sq.zero).off) (Ne.symm hFX)).cell (k := 1) rfl
    clear hb35 hb5 hX5 hb6 f1
    refine wpAnyH_take (i := 17) (v := .agg #[.int .i64 (o.getD Sq.zero).lit, .int .i64 (o.getD Sq.zero).len, .int .i64 (o.getD Sq.zero).off]) (by simp only [List.getElem?_toArray, List.getElem?_cons_zero, List.getElem?_cons_succ]; rfl) (by kernel_rfl) (by kernel_rfl) (by kernel_rfl) (fun _ _ _ h => h) (Or.inl ⟨by rfl, fun W hSw => ?_⟩) (by assumption) ?_
    · clear hSw
      go_simp
    simp only [Act.put, List.setIfInBounds_toArray, List.set_cons_zero, List.set_cons_succ]
    refine wpAnyH_take (i := 18) (v := .bool o.isSome) (by simp only [List.getElem?_toArray, List.getElem?_cons_zero, List.getElem?_cons_succ]; rfl) (by kernel_rfl) (by kernel_rfl) (by kernel_rfl) (fun _ _ _ h => h) (Or.inl ⟨by rfl, fun W hSw => ?_⟩) (by assumption) ?_
    · clear hSw
      go_simp
    simp only [Act.put, List.setIfInBounds_toArray, List.set_cons_zero, List.set_cons_succ]
    refine wpAnyH_ready (rs := [19]) (by kernel_rfl) (by simp) ?_
    refine AllReadyH.cons (by simp only [List.getElem?_toArray, List.getElem?_cons_zero, List.getElem?_cons_succ]; rfl) (fun K hK => ?_) AllReadyH.nil
    rw [if_pos (by rfl)]
    go_simp
    refine hK.out _ _ hf6 (fun _ => ?_)
    clear hK K
    refine wpAnyH_ready (rs := [20]) (by kernel_rfl) (by simp) ?_
    refine AllReadyH.cons (by simp only [List.getElem?_toArray, List.getElem?_cons_zero, List.getElem?_cons_succ]; rfl) (fun K hK => ?_) AllReadyH.nil
    rw [if_pos (by rfl)]
    go_simp
    refine hK.out _ _ hf6 (fun _ => ?_)
    clear hK K
    refine wpAnyH_done (by kernel_rfl) ?_ _
    refine NoPanic.normal ?_
    clear hf6 p0 p1 p2 z0 z1 z2 g5 g1
    go_wp2
    have r0 := HX.out.cell (k := 0) rfl
    have r1 := HX.out.cell (k := 1) rfl
    have r2 := HX.out.cell (k := 2) rfl
    have hb9 := HB.out
    clear HX HB
    generalize ((w5.setCell ⟨w.heap.size, 0, none⟩ (.int .i64 (o.getD Sq.zero).lit)).setCell ⟨w.heap.size, 1, none⟩ (.int .i64 (o.getD Sq.zero).len)).setCell ⟨w.heap.size, 2, none⟩ (.int .i64 (o.getD Sq.zero).off) = W9 at *
    refine bodyPost_ret (v := .tuple #[sqv (o.getD Sq.zero), .bool o.isSome]) (by simp [results, Try.results21, go_sem, r0, r1, r2, sqv]) rfl ?_
    exact ⟨by rw [HOo.out], hb9⟩
end Go.Proofs.Ytngphgdoolcpcaa
