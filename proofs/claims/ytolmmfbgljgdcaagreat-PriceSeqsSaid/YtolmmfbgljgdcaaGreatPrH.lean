/-
  The walks of layer 32 (price), eighth part: FromPlan of a plan that is none.
-/
import Derived.Test.YtolmmfbgljgdcaaGreatPrG
namespace Go.Proofs.YtolmmfbgljgdcaaGreat
open Go.RowKit Go.Port

set_option maxRecDepth 100000 in
set_option maxHeartbeats 8000000 in
theorem prfrom_bad2 (w : World) (a : Option Addr) (cl : Nat) (l : List Sq) (ad : Option Addr) (c : Nat) (bs : List UInt8) (h : PdAt w a cl l ad c bs) (hp : plitsO bs l = true) (hwf : ∀ s ∈ l, -9223372036854775808 ≤ s.off ∧ s.off ≤ 9223372036854775807) (ho : ¬ ∀ s ∈ l, offOk s = true) :
    Calls Tryz.prog 20 #[.slice ad bs.length c, .slice a l.length cl] w (RetV w (.tuple #[.pointer none, .int .i64 2])) := by
  have hmk44 : ∀ W : World, (Instr.makeSlice 22 (.int .i64 44) (.int .i64 44)).run Tryz.prog W = .ok (.slice (some ⟨W.heap.size, 0, none⟩) 44 44) (W.alloc (.cells (List.replicate 44 (iv 0)).toArray 3)) := fun W => by
    rw [← show madeCells #[Value.int .i64 0] 44 = (List.replicate 44 (iv 0)).toArray from by kernel_rfl]
    exact run_make_row' (P := Tryz.prog) 22 3 (.int .i64 0) 8 Tryz.underlying22 Tryz.info_int rfl .i64 .i64 44 (by decide) (by decide) W
  have hmk28 : ∀ W : World, (Instr.makeSlice 22 (.int .i64 28) (.int .i64 28)).run Tryz.prog W = .ok (.slice (some ⟨W.heap.size, 0, none⟩) 28 28) (W.alloc (.cells (List.replicate 28 (iv 0)).toArray 3)) := fun W => by
    rw [← show madeCells #[Value.int .i64 0] 28 = (List.replicate 28 (iv 0)).toArray from by kernel_rfl]
    exact run_make_row' (P := Tryz.prog) 22 3 (.int .i64 0) 8 Tryz.underlying22 Tryz.info_int rfl .i64 .i64 28 (by decide) (by decide) W
  have HP1 := hid (show Blk ((w.alloc (.cells #[.pointer none] 28)).alloc (.cells #[.int .i64 0] 33)) w.heap.size [.pointer none] 28 from (Blk.newAt rfl).alloc _)
  have HE1 := hid (show Blk ((w.alloc (.cells #[.pointer none] 28)).alloc (.cells #[.int .i64 0] 33)) (w.heap.size + 1) [.int .i64 0] 33 from Blk.newAt (by simp))
  have HBl := hid (show Below w.heap.size w ((w.alloc (.cells #[.pointer none] 28)).alloc (.cells #[.int .i64 0] 33)) from (below_new w _).alloc (by simp) _)
  have HH := hid h
  have HLit := hid (fun W (hb : Below ((w.alloc (.cells #[.pointer none] 28)).alloc (.cells #[.int .i64 0] 33)).heap.size ((w.alloc (.cells #[.pointer none] 28)).alloc (.cells #[.int .i64 0] 33)) W) => prliterals_ok W a cl l ad c bs ((h.low HBl.out).low hb) hp)
  have hlm : (litsS bs l).length ≤ maxLen := by
    unfold plitsO at hp
    cases e : planEnd 0 l with
    | none => rw [e] at hp; cases hp
    | some n =>
      rw [e] at hp
      have h1 := litsS_len e (by simpa using hp)
      have h2 := h.small
      unfold maxLen
      omega
  have HLm := hid hlm
  obtain ⟨nE, hnE⟩ : ∃ n, planEnd 0 l = some n := by
    unfold plitsO at hp
    cases e : planEnd 0 l with
    | none => rw [e] at hp; cases hp
    | some n => exact ⟨n, rfl⟩
  have HPn := hid hnE
  have HOf := hid ho
  clear h hp hlm hnE ho
  obtain ⟨lb, hlb⟩ : ∃ lb, lb = litsS bs l := ⟨_, rfl⟩
  rw [← hlb] at HLit HLm
  have HLb := hid hlb
  clear hlb
  go_enter_defers Tryz.func20, Tryz.ntmps20
  go_wp2_with fail
  generalize (w.alloc (.cells #[.pointer none] 28)).alloc (.cells #[.int .i64 0] 33) = wB at *
  have HI0 := hid (show FpI wB lb false false false false false false false false false undef undef undef undef undef undef undef undef wB.drew from
    ⟨(Below.refl _ _).drew, fun h => (by cases h), fun h => (by cases h), fun h => (by cases h), fun h => (by cases h), fun h => (by cases h), fun h => (by cases h), fun h => (by cases h), fun h => (by cases h), fun h => (by cases h), fun h => (by cases h), fun h => (by cases h), fun h => (by cases h)⟩)
  refine wp_region_noPanic ?_
  refine wp_region_any (by kernel_rfl) ?_
  refine wpAny_take (i := 0) (v := .slice ad bs.length c) (by simp only [List.getElem?_toArray, List.getElem?_cons_zero]; rfl) (by kernel_rfl) (by kernel_rfl) (by kernel_rfl) (fun _ _ _ h => h) (Or.inl ⟨by rfl, fun W => by go_simp⟩) ?_
  simp only [Act.put, List.setIfInBounds_toArray, List.set_cons_zero, List.set_cons_succ]
  refine wpAny_take (i := 1) (v := .slice a l.length cl) (by simp only [List.getElem?_toArray, List.getElem?_cons_zero, List.getElem?_cons_succ]; rfl) (by kernel_rfl) (by kernel_rfl) (by kernel_rfl) (fun _ _ _ h => h) (Or.inl ⟨by rfl, fun W => by go_simp⟩) ?_
  simp only [Act.put, List.setIfInBounds_toArray, List.set_cons_zero, List.set_cons_succ]
  refine wpAny_inv (by kernel_rfl) (fun L a0 W => (L.getD 10 false = false ∧ L.getD 0 true = true ∧ L.getD 1 true = true ∧ ∃ v12 v13 v14 v15 v16 v17 v18 v6, a0 = { tmps := #[.slice ad bs.length c, .slice a l.length cl, undef, undef, .pointer (some ⟨w.heap.size, 0, none⟩), .pointer (some ⟨w.heap.size + 1, 0, none⟩), v6, undef, undef, .func (.func 49) #[] #[.pointer (some ⟨w.heap.size, 0, none⟩)], .slice ad bs.length c, .slice a l.length cl, v12, v13, v14, v15, v16, v17, v18, undef, undef, undef, undef, undef, undef, undef, undef, undef, undef, undef, undef, undef, undef, undef, undef, undef, undef, undef, undef, undef, undef, undef, undef, undef, undef, undef, undef, undef, undef, undef, undef, undef, undef, undef, undef, undef, undef, undef, undef], defers := [{ target := Target.fn (Fn.func 48) #[], args := #[.pointer (some ⟨w.heap.size + 1, 0, none⟩), .func (.func 49) #[] #[.pointer (some ⟨w.heap.size, 0, none⟩)]] }] } ∧ FpI wB lb (L.getD 2 false) (L.getD 3 false) (L.getD 4 false) (L.getD 5 false) (L.getD 6 false) (L.getD 7 false) (L.getD 8 false) (L.getD 9 false) false v12 v13 v14 v15 v16 v17 v18 v6 W) ∨ ((∀ i, L.getD i true = true) ∧ ∃ v12 v13 v14 v15 v16 v17 v18 b x14 x15 x16 x17, a0 = { tmps := #[.slice ad bs.length c, .slice a l.length cl, undef, undef, .pointer (some ⟨w.heap.size, 0, none⟩), .pointer (some ⟨w.heap.size + 1, 0, none⟩), .pointer (some ⟨b, 0, none⟩), undef, undef, .func (.func 49) #[] #[.pointer (some ⟨w.heap.size, 0, none⟩)], .slice ad bs.length c, .slice a l.length cl, v12, v13, v14, v15, v16, v17, v18, undef, undef, undef, undef, undef, undef, undef, undef, undef, undef, undef, undef, undef, undef, undef, undef, undef, undef, undef, undef, undef, undef, undef, undef, undef, undef, undef, undef, undef, undef, undef, undef, undef, undef, undef, undef, undef, undef, undef, undef], defers := [{ target := Target.fn (Fn.func 48) #[], args := #[.pointer (some ⟨w.heap.size + 1, 0, none⟩), .func (.func 49) #[] #[.pointer (some ⟨w.heap.size, 0, none⟩)]] }] } ∧ Below wB.heap.size wB W ∧ wB.heap.size ≤ b ∧ Blk W b [x14, x15, x16, x17] 23 ∧ FpFour wB.heap.size lb x14 x15 x16 x17 W)) ?_ ?_ _ _ _ _ (by rfl) (.inl ⟨rfl, rfl, rfl, _, _, _, _, _, _, _, _, rfl, HI0.out⟩) (by decide)
  · intro i o ho listed a' W hs hinv hnl hd K hK
    rcases hinv with ⟨hl10, h0, h1, v12, v13, v14, v15, v16, v17, v18, v6, rfl, hI⟩ | ⟨hall, _⟩
    rotate_left
    · rw [hall i] at hnl; cases hnl
    rcases i with _ | _ | _ | _ | _ | _ | _ | _ | _ | _ | _ | i
    · rw [h0] at hnl; cases hnl
    · have h1' : listed.getD (0 + 1) true = true := h1
      rw [h1'] at hnl; cases hnl
    · simp only [List.getElem?_toArray, List.getElem?_cons_zero, List.getElem?_cons_succ, Option.some.injEq, Nat.zero_add, Nat.reduceAdd] at ho
      subst ho
      rw [if_pos (by rfl)]
      go_simp
      go_at_call 25
      refine (HLit.out W hI.low).mono ?_
      rintro e W' ⟨v, rfl, hown, hb⟩
      refine hK _ _ (.inl ⟨(by rw [getD_set_ne' false (by decide)]; exact hl10), (by rw [getD_set_ne' true (by decide)]; exact h0), (by rw [getD_set_ne' true (by decide)]; exact h1), v, v13, v14, v15, v16, v17, v18, v6, rfl, ?_⟩)
      rw [getD_set_eq false (show 2 < listed.size by rw [hs]; decide), getD_set_ne' false (show 2 ≠ 3 by decide), getD_set_ne' false (show 2 ≠ 4 by decide), getD_set_ne' false (show 2 ≠ 5 by decide), getD_set_ne' false (show 2 ≠ 6 by decide), getD_set_ne' false (show 2 ≠ 7 by decide), getD_set_ne' false (show 2 ≠ 8 by decide), getD_set_ne' false (show 2 ≠ 9 by decide)]
      exact hI.did2 hb hown
    · simp only [List.getElem?_toArray, List.getElem?_cons_zero, List.getElem?_cons_succ, Option.some.injEq, Nat.zero_add, Nat.reduceAdd] at ho
      subst ho
      have d2 := hd { on := 2, ground := .data } (by simp) (by rfl)
      obtain ⟨a12, c12, rfl⟩ := own_slice (hI.f12 d2)
      rw [if_pos (by rfl)]
      go_simp
      refine hK _ _ (.inl ⟨(by rw [getD_set_ne' false (by decide)]; exact hl10), (by rw [getD_set_ne' true (by decide)]; exact h0), (by rw [getD_set_ne' true (by decide)]; exact h1), .slice a12 lb.length c12, .slice (some ⟨W.heap.size, 0, none⟩) 1 1, v14, v15, v16, v17, v18, v6, rfl, ?_⟩)
      rw [getD_set_eq false (show 3 < listed.size by rw [hs]; decide), getD_set_ne' false (show 3 ≠ 2 by decide), getD_set_ne' false (show 3 ≠ 4 by decide), getD_set_ne' false (show 3 ≠ 5 by decide), getD_set_ne' false (show 3 ≠ 6 by decide), getD_set_ne' false (show 3 ≠ 7 by decide), getD_set_ne' false (show 3 ≠ 8 by decide), getD_set_ne' false (show 3 ≠ 9 by decide)]
      exact hI.did3 d2
    · simp only [List.getElem?_toArray, List.getElem?_cons_zero, List.getElem?_cons_succ, Option.some.injEq, Nat.zero_add, Nat.reduceAdd] at ho
      subst ho
      have d3 := hd { on := 3, ground := .data } (by simp) (by rfl)
      obtain ⟨b, u, rfl, hbu, hou⟩ := hI.f13 d3
      obtain ⟨au, cu, rfl⟩ := own_slice hou
      have hcu := (Sl.of_owns hou).open
      obtain ⟨a9, c9, e9, _, _, _, hcs9⟩ := hcu
      cases e9
      rw [if_pos (by rfl)]
      go_simp
      go_at_call 50
      refine (hist_one ⟨b, 0, none⟩ 1 au lb.length cu lb W rfl HLm.out (hbu.cell (k := 0) rfl) (fun j u hu => by obtain ⟨b2, o2, e1, e2, e3⟩ := hcs9 j u (by simpa using hu); exact ⟨b2, o2, e1, e2, e3⟩)).mono ?_
      rintro e W' ⟨v, rfl, b4, rfl, hbk, hb⟩
      refine hK _ _ (.inl ⟨(by rw [getD_set_ne' false (by decide)]; exact hl10), (by rw [getD_set_ne' true (by decide)]; exact h0), (by rw [getD_set_ne' true (by decide)]; exact h1), v12, .slice (some ⟨b, 0, none⟩) 1 1, .slice (some ⟨b4, 0, none⟩) 256 256, v15, v16, v17, v18, v6, rfl, ?_⟩)
      rw [getD_set_eq false (show 4 < listed.size by rw [hs]; decide), getD_set_ne' false (show 4 ≠ 2 by decide), getD_set_ne' false (show 4 ≠ 3 by decide), getD_set_ne' false (show 4 ≠ 5 by decide), getD_set_ne' false (show 4 ≠ 6 by decide), getD_set_ne' false (show 4 ≠ 7 by decide), getD_set_ne' false (show 4 ≠ 8 by decide), getD_set_ne' false (show 4 ≠ 9 by decide)]
      exact hI.did4 hb ⟨b4, rfl, hbk⟩
    · simp only [List.getElem?_toArray, List.getElem?_cons_zero, List.getElem?_cons_succ, Option.some.injEq, Nat.zero_add, Nat.reduceAdd] at ho
      subst ho
      rw [if_pos (by rfl)]
      go_simp
      refine hK _ _ (.inl ⟨(by rw [getD_set_ne' false (by decide)]; exact hl10), (by rw [getD_set_ne' true (by decide)]; exact h0), (by rw [getD_set_ne' true (by decide)]; exact h1), v12, v13, v14, .slice (some ⟨W.heap.size, 0, none⟩) 44 44, v16, v17, v18, v6, rfl, ?_⟩)
      rw [getD_set_eq false (show 5 < listed.size by rw [hs]; decide), getD_set_ne' false (show 5 ≠ 2 by decide), getD_set_ne' false (show 5 ≠ 3 by decide), getD_set_ne' false (show 5 ≠ 4 by decide), getD_set_ne' false (show 5 ≠ 6 by decide), getD_set_ne' false (show 5 ≠ 7 by decide), getD_set_ne' false (show 5 ≠ 8 by decide), getD_set_ne' false (show 5 ≠ 9 by decide)]
      exact hI.did5
    · simp only [List.getElem?_toArray, List.getElem?_cons_zero, List.getElem?_cons_succ, Option.some.injEq, Nat.zero_add, Nat.reduceAdd] at ho
      subst ho
      rw [if_pos (by rfl)]
      go_simp
      refine hK _ _ (.inl ⟨(by rw [getD_set_ne' false (by decide)]; exact hl10), (by rw [getD_set_ne' true (by decide)]; exact h0), (by rw [getD_set_ne' true (by decide)]; exact h1), v12, v13, v14, v15, .slice (some ⟨W.heap.size, 0, none⟩) 28 28, v17, v18, v6, rfl, ?_⟩)
      rw [getD_set_eq false (show 6 < listed.size by rw [hs]; decide), getD_set_ne' false (show 6 ≠ 2 by decide), getD_set_ne' false (show 6 ≠ 3 by decide), getD_set_ne' false (show 6 ≠ 4 by decide), getD_set_ne' false (show 6 ≠ 5 by decide), getD_set_ne' false (show 6 ≠ 7 by decide), getD_set_ne' false (show 6 ≠ 8 by decide), getD_set_ne' false (show 6 ≠ 9 by decide)]
      exact hI.did6
    · simp only [List.getElem?_toArray, List.getElem?_cons_zero, List.getElem?_cons_succ, Option.some.injEq, Nat.zero_add, Nat.reduceAdd] at ho
      subst ho
      rw [if_pos (by rfl)]
      go_simp
      refine hK _ _ (.inl ⟨(by rw [getD_set_ne' false (by decide)]; exact hl10), (by rw [getD_set_ne' true (by decide)]; exact h0), (by rw [getD_set_ne' true (by decide)]; exact h1), v12, v13, v14, v15, v16, .slice (some ⟨W.heap.size, 0, none⟩) 44 44, v18, v6, rfl, ?_⟩)
      rw [getD_set_eq false (show 7 < listed.size by rw [hs]; decide), getD_set_ne' false (show 7 ≠ 2 by decide), getD_set_ne' false (show 7 ≠ 3 by decide), getD_set_ne' false (show 7 ≠ 4 by decide), getD_set_ne' false (show 7 ≠ 5 by decide), getD_set_ne' false (show 7 ≠ 6 by decide), getD_set_ne' false (show 7 ≠ 8 by decide), getD_set_ne' false (show 7 ≠ 9 by decide)]
      exact hI.did7
    · simp only [List.getElem?_toArray, List.getElem?_cons_zero, List.getElem?_cons_succ, Option.some.injEq, Nat.zero_add, Nat.reduceAdd] at ho
      subst ho
      have d4 := hd { on := 4, ground := .data } (by simp) (by rfl)
      have d5 := hd { on := 5, ground := .data } (by simp) (by rfl)
      have d6 := hd { on := 6, ground := .data } (by simp) (by rfl)
      have d7 := hd { on := 7, ground := .data } (by simp) (by rfl)
      obtain ⟨g14, e14, _⟩ := hI.f14 d4
      obtain ⟨g15, e15, _⟩ := hI.f15 d5
      obtain ⟨g16, e16, _⟩ := hI.f16 d6
      obtain ⟨g17, e17, _⟩ := hI.f17 d7
      subst e14 e15 e16 e17
      rw [if_pos (by rfl)]
      go_simp
      refine hK _ _ (.inl ⟨(by rw [getD_set_ne' false (by decide)]; exact hl10), (by rw [getD_set_ne' true (by decide)]; exact h0), (by rw [getD_set_ne' true (by decide)]; exact h1), v12, v13, .slice (some ⟨g14, 0, none⟩) 256 256, .slice (some ⟨g15, 0, none⟩) 44 44, .slice (some ⟨g16, 0, none⟩) 28 28, .slice (some ⟨g17, 0, none⟩) 44 44, .agg #[.slice (some ⟨g14, 0, none⟩) 256 256, .slice (some ⟨g15, 0, none⟩) 44 44, .slice (some ⟨g16, 0, none⟩) 28 28, .slice (some ⟨g17, 0, none⟩) 44 44], v6, rfl, ?_⟩)
      rw [getD_set_eq false (show 8 < listed.size by rw [hs]; decide), getD_set_ne' false (show 8 ≠ 2 by decide), getD_set_ne' false (show 8 ≠ 3 by decide), getD_set_ne' false (show 8 ≠ 4 by decide), getD_set_ne' false (show 8 ≠ 5 by decide), getD_set_ne' false (show 8 ≠ 6 by decide), getD_set_ne' false (show 8 ≠ 7 by decide), getD_set_ne' false (show 8 ≠ 9 by decide)]
      exact hI.did8 d4 d5 d6 d7
    · simp only [List.getElem?_toArray, List.getElem?_cons_zero, List.getElem?_cons_succ, Option.some.injEq, Nat.zero_add, Nat.reduceAdd] at ho
      subst ho
      rw [if_pos (by rfl)]
      go_simp
      refine hK _ _ (.inl ⟨(by rw [getD_set_ne' false (by decide)]; exact hl10), (by rw [getD_set_ne' true (by decide)]; exact h0), (by rw [getD_set_ne' true (by decide)]; exact h1), v12, v13, v14, v15, v16, v17, v18, .pointer (some ⟨W.heap.size, 0, none⟩), rfl, ?_⟩)
      rw [getD_set_eq false (show 9 < listed.size by rw [hs]; decide), getD_set_ne' false (show 9 ≠ 2 by decide), getD_set_ne' false (show 9 ≠ 3 by decide), getD_set_ne' false (show 9 ≠ 4 by decide), getD_set_ne' false (show 9 ≠ 5 by decide), getD_set_ne' false (show 9 ≠ 6 by decide), getD_set_ne' false (show 9 ≠ 7 by decide), getD_set_ne' false (show 9 ≠ 8 by decide)]
      exact hI.did9 rfl
    · simp only [List.getElem?_toArray, List.getElem?_cons_zero, List.getElem?_cons_succ, Option.some.injEq, Nat.zero_add, Nat.reduceAdd] at ho
      subst ho
      have p0 := hd { on := 0, ground := .phase } (by simp) (by rfl)
      have p1 := hd { on := 1, ground := .phase } (by simp) (by rfl)
      have p2 := hd { on := 2, ground := .phase } (by simp) (by rfl)
      have p3 := hd { on := 3, ground := .phase } (by simp) (by rfl)
      have p4 := hd { on := 4, ground := .phase } (by simp) (by rfl)
      have p5 := hd { on := 5, ground := .phase } (by simp) (by rfl)
      have p6 := hd { on := 6, ground := .phase } (by simp) (by rfl)
      have p7 := hd { on := 7, ground := .phase } (by simp) (by rfl)
      have p8 := hd { on := 8, ground := .phase } (by simp) (by rfl)
      have p9 := hd { on := 9, ground := .phase } (by simp) (by rfl)
      obtain ⟨x14, x15, x16, x17, rfl, hF⟩ := hI.f18 p8
      obtain ⟨b, rfl, hbB, hbk⟩ := hI.f6 p9 rfl
      have y0 := hbk.cell (k := 0) rfl
      have y1 := hbk.cell (k := 1) rfl
      have y2 := hbk.cell (k := 2) rfl
      have y3 := hbk.cell (k := 3) rfl
      have z0 := hbk.frozen 0
      have z1 := hbk.frozen 1
      have z2 := hbk.frozen 2
      have z3 := hbk.frozen 3
      have HBk := hid (show Blk ((((W.setCell ⟨b, 0, none⟩ x14).setCell ⟨b, 1, none⟩ x15).setCell ⟨b, 2, none⟩ x16).setCell ⟨b, 3, none⟩ x17) b [x14, x15, x16, x17] 23 from (((hbk.set 0 x14).set 1 x15).set 2 x16).set 3 x17)
      have HLw := hid ((((hI.low.setCell (p := ⟨b, 0, none⟩) hbB x14).setCell (p := ⟨b, 1, none⟩) hbB x15).setCell (p := ⟨b, 2, none⟩) hbB x16).setCell (p := ⟨b, 3, none⟩) hbB x17)
      have HFo := hid (hF.store4 hbk x14 x15 x16 x17)
      obtain ⟨s14, s15, s16, s17⟩ := hF.forms
      obtain ⟨g14, rfl⟩ := s14
      obtain ⟨g15, rfl⟩ := s15
      obtain ⟨g16, rfl⟩ := s16
      obtain ⟨g17, rfl⟩ := s17
      rw [if_pos (by rfl)]
      go_simp
      refine hK _ _ (.inr ⟨fun i => ?_, v12, v13, v14, v15, v16, v17, _, b, _, _, _, _, rfl, HLw.out, hbB, HBk.out, HFo.out⟩)
      by_cases e10 : i = 10
      · subst e10; exact getD_set_eq true (by rw [hs]; decide)
      · rw [getD_set_ne' true (by omega)]
        rcases i with _ | _ | _ | _ | _ | _ | _ | _ | _ | _ | _ | i
        · exact h0
        · exact h1
        · exact getD_tf p2
        · exact getD_tf p3
        · exact getD_tf p4
        · exact getD_tf p5
        · exact getD_tf p6
        · exact getD_tf p7
        · exact getD_tf p8
        · exact getD_tf p9
        · exact absurd rfl e10
        · rw [Array.getD_eq_getD_getElem?, Array.getElem?_eq_none (by rw [hs]; simp)]; rfl
    · simp at ho
  · intro listed a' W hs hinv hall
    rcases hinv with ⟨hl10, _⟩ | ⟨_, v12, v13, v14, v15, v16, v17, v18, b, x14, x15, x16, x17, rfl, hlw, hbB, hbk, hF⟩
    · have h10 := getD_tf2 (hall 10) (show 10 < listed.size by rw [hs]; decide)
      rw [hl10] at h10; cases h10
    refine NoPanic.normal ?_
    obtain ⟨g14, g15, g16, g17, e14, e15, e16, e17, FS⟩ : ∃ g14 g15 g16 g17, x14 = .slice (some ⟨g14, 0, none⟩) 256 256 ∧ x15 = .slice (some ⟨g15, 0, none⟩) 44 44 ∧ x16 = .slice (some ⟨g16, 0, none⟩) 28 28 ∧ x17 = .slice (some ⟨g17, 0, none⟩) 44 44 ∧
        FpS w lb b g14 g15 g16 g17 (cntK 1 (l.take 0)) (cntK 2 (l.take 0)) (cntK 3 (l.take 0)) W := by
      obtain ⟨⟨g14, e14, h14⟩, ⟨g15, e15, l15, h15⟩, ⟨g16, e16, l16, h16⟩, ⟨g17, e17, l17, h17⟩, n1, n2, n3⟩ := hF
      refine ⟨g14, g15, g16, g17, e14, e15, e16, e17, ⟨by rw [← e14, ← e15, ← e16, ← e17]; exact hbk, h14, h15, h16, h17, HP1.out.below hlw HP1.out.lt, HE1.out.below hlw HE1.out.lt, HBl.out.trans (hlw.mono HBl.out.size), fun e => n1 (by rw [e15, e16, e]; try rfl), fun e => n2 (by rw [e15, e17, e]), fun e => n3 (by rw [e16, e17, e]; try rfl), Nat.le_trans HBl.out.size l15, Nat.le_trans HBl.out.size l16, Nat.le_trans HBl.out.size l17⟩⟩
    have HF0 := hid FS
    subst e14 e15 e16 e17
    have hlc := HH.out.hlc
    have hll := HH.out.hl
    have hlcI : (l.length : Int) ≤ (cl : Int) := by omega
    have hllI : (l.length : Int) ≤ 40000 := by omega
    clear hlw hbB hbk hF FS hlc hll hall hs
    go_wp2_with fail
    go_loopw [21] (fun i wr => ∃ k : Nat, k ≤ l.length ∧ i = .int .i64 (k : Int) ∧ FpS w lb b g14 g15 g16 g17 (cntK 1 (l.take k)) (cntK 2 (l.take k)) (cntK 3 (l.take k)) wr ∧ Hid (∀ s ∈ l.take k, offOk s = true)) (fun i _ => l.length - (intOf i).toNat)
    case atStart => exact ⟨0, Nat.zero_le _, rfl, HF0.out, hid (fun s hs => by simp at hs)⟩
    case round =>
      obtain ⟨k, hk, rfl, hS, HJ⟩ := hrel
      have HS := hid hS
      by_cases hlt : k < l.length
      · obtain ⟨s, hsk⟩ : ∃ s, l[k]? = some s := ⟨l[k], by simp [hlt]⟩
        obtain ⟨hq1, hq2, hq3, hq4⟩ := plan_seq HPn.out hsk
        obtain ⟨bl, o, rfl, hbl, y0, y1, y2⟩ := seq_cells (HH.out.cells.low HS.out.low) hsk
        obtain ⟨lit, len, off⟩ := s
        dsimp only at hq1 hq2 hq3 hq4 y0 y1 y2
        have HWf := hid (hwf _ (List.mem_of_getElem? hsk))
        dsimp only at HWf
        have hllk : (l.take k).length ≤ 40000 := by have := HH.out.hl; rw [List.length_take]; omega
        have hltI : (k : Int) < (l.length : Int) := by omega
        have HLt := hid hlt
        have HBx := hid (below_new wr (.cells #[.int .i64 lit, .int .i64 len, .int .i64 off] 42))
        have HSq0 := hid (Blk.new wr [.int .i64 lit, .int .i64 len, .int .i64 off] 42)
        by_cases hof : offOk ⟨lit, len, off⟩ = true
        · have HOk := hid hof
          unfold offOk at hof
          simp only [Bool.and_eq_true, decide_eq_true_eq] at hof
          obtain ⟨ho1, ho2⟩ := hof
          have hnx : ∀ s ∈ l.take (k + 1), offOk s = true := by
            obtain ⟨_, e⟩ := List.getElem?_eq_some_iff.1 hsk
            intro s hs
            rw [List.take_succ_eq_append_getElem hlt, e] at hs
            rcases List.mem_append.1 hs with h1 | h1
            · exact HJ.out s h1
            · rw [List.mem_singleton.1 h1]; exact HOk.out
          have HNx := hid hnx
          clear hnx
          have hco1 : codeS false lit = some (codeK 1 ⟨lit, len, off⟩) := by unfold codeS; rw [if_pos (by unfold eleast ebelow; simp; omega)]; rfl
          have hco2 : codeS true (off + 3) = some (codeK 2 ⟨lit, len, off⟩) := by unfold codeS; rw [if_pos (by unfold eleast ebelow; simp; omega)]; rfl
          have hco3 : codeS false (len - 3) = some (codeK 3 ⟨lit, len, off⟩) := by unfold codeS; rw [if_pos (by unfold eleast ebelow; simp; omega)]; rfl
          have HFar : Hid (∀ W, Calls Tryz.prog 53 #[.int .i64 off] W (RetV W (.int .i64 (off + 3)))) := hid (fun W => by
            have := prfar_any off W (by omega) (by omega)
            rw [if_neg (by omega)] at this
            exact this)
          have hw3 : IntKind.i64.wrap (len - 3) = len - 3 := by rw [IntKind.wrap_i64]; omega
          have hcl1 : codeK 1 ⟨lit, len, off⟩ < symN 1 := by
            have := codeS_lt hco1
            rw [symN_codes 1 (by decide)]
            exact this
          obtain ⟨x1, hxi1⟩ : ∃ x, (cntK 1 (l.take k))[codeK 1 ⟨lit, len, off⟩]? = some x := ⟨(cntK 1 (l.take k))[codeK 1 ⟨lit, len, off⟩]'(by rw [cntK_length]; exact hcl1), List.getElem?_eq_getElem _⟩
          have hxb1 := cntK_le 1 (l.take k) x1 (List.mem_of_getElem? hxi1)
          have hxw1 : IntKind.i64.wrap (x1 + 1) = x1 + 1 := by rw [IntKind.wrap_i64]; omega
          have hsn1 : cntK 1 (l.take (k + 1)) = bumpK (cntK 1 (l.take k)) (codeK 1 ⟨lit, len, off⟩) := by
            obtain ⟨_, e⟩ := List.getElem?_eq_some_iff.1 hsk
            rw [List.take_succ_eq_append_getElem hlt, e, cntK_snoc]
          have HSn1 := hid hsn1
          have HXi1 := hid hxi1
          have hiI1 : (codeK 1 ⟨lit, len, off⟩ : Int) < 44 := by have : symN 1 = 44 := rfl; omega
          have HCo1 : Hid (∀ W, Calls Tryz.prog 51 #[.func (.func 54) #[] #[], .int .i64 (lit)] W (RetV W (.int .i64 (codeK 1 ⟨lit, len, off⟩ : Nat)))) := hid (fun W => by
            have := prcoded_any false (lit) W
            rw [show codeS false (lit) = some (codeK 1 ⟨lit, len, off⟩) from hco1] at this
            exact this)
          clear hsn1 hxi1 hcl1 hxb1
          generalize codeK 1 ⟨lit, len, off⟩ = i1 at *
          have hcl2 : codeK 2 ⟨lit, len, off⟩ < symN 2 := by
            have := codeS_lt hco2
            rw [symN_codes 2 (by decide)]
            exact this
          obtain ⟨x2, hxi2⟩ : ∃ x, (cntK 2 (l.take k))[codeK 2 ⟨lit, len, off⟩]? = some x := ⟨(cntK 2 (l.take k))[codeK 2 ⟨lit, len, off⟩]'(by rw [cntK_length]; exact hcl2), List.getElem?_eq_getElem _⟩
          have hxb2 := cntK_le 2 (l.take k) x2 (List.mem_of_getElem? hxi2)
          have hxw2 : IntKind.i64.wrap (x2 + 1) = x2 + 1 := by rw [IntKind.wrap_i64]; omega
          have hsn2 : cntK 2 (l.take (k + 1)) = bumpK (cntK 2 (l.take k)) (codeK 2 ⟨lit, len, off⟩) := by
            obtain ⟨_, e⟩ := List.getElem?_eq_some_iff.1 hsk
            rw [List.take_succ_eq_append_getElem hlt, e, cntK_snoc]
          have HSn2 := hid hsn2
          have HXi2 := hid hxi2
          have hiI2 : (codeK 2 ⟨lit, len, off⟩ : Int) < 28 := by have : symN 2 = 28 := rfl; omega
          have HCo2 : Hid (∀ W, Calls Tryz.prog 51 #[.func (.func 52) #[] #[], .int .i64 (off + 3)] W (RetV W (.int .i64 (codeK 2 ⟨lit, len, off⟩ : Nat)))) := hid (fun W => by
            have := prcoded_any true (off + 3) W
            rw [show codeS true (off + 3) = some (codeK 2 ⟨lit, len, off⟩) from hco2] at this
            exact this)
          clear hsn2 hxi2 hcl2 hxb2
          generalize codeK 2 ⟨lit, len, off⟩ = i2 at *
          have hcl3 : codeK 3 ⟨lit, len, off⟩ < symN 3 := by
            have := codeS_lt hco3
            rw [symN_codes 3 (by decide)]
            exact this
          obtain ⟨x3, hxi3⟩ : ∃ x, (cntK 3 (l.take k))[codeK 3 ⟨lit, len, off⟩]? = some x := ⟨(cntK 3 (l.take k))[codeK 3 ⟨lit, len, off⟩]'(by rw [cntK_length]; exact hcl3), List.getElem?_eq_getElem _⟩
          have hxb3 := cntK_le 3 (l.take k) x3 (List.mem_of_getElem? hxi3)
          have hxw3 : IntKind.i64.wrap (x3 + 1) = x3 + 1 := by rw [IntKind.wrap_i64]; omega
          have hsn3 : cntK 3 (l.take (k + 1)) = bumpK (cntK 3 (l.take k)) (codeK 3 ⟨lit, len, off⟩) := by
            obtain ⟨_, e⟩ := List.getElem?_eq_some_iff.1 hsk
            rw [List.take_succ_eq_append_getElem hlt, e, cntK_snoc]
          have HSn3 := hid hsn3
          have HXi3 := hid hxi3
          have hiI3 : (codeK 3 ⟨lit, len, off⟩ : Int) < 44 := by have : symN 3 = 44 := rfl; omega
          have HCo3 : Hid (∀ W, Calls Tryz.prog 51 #[.func (.func 54) #[] #[], .int .i64 (len - 3)] W (RetV W (.int .i64 (codeK 3 ⟨lit, len, off⟩ : Nat)))) := hid (fun W => by
            have := prcoded_any false (len - 3) W
            rw [show codeS false (len - 3) = some (codeK 3 ⟨lit, len, off⟩) from hco3] at this
            exact this)
          clear hsn3 hxi3 hcl3 hxb3
          generalize codeK 3 ⟨lit, len, off⟩ = i3 at *
          have HS1 := hid (HS.out.grow HBx.out)
          clear hbl hsk hco1 hco2 hco3 hq1 hq2 hq3 hq4 hllk hlt hk hS
          go_wp2_with fail
          clear y0 y1 y2
          obtain ⟨sB, hsB⟩ : ∃ sB, sB = wr.heap.size := ⟨_, rfl⟩
          rw [← hsB] at HSq0 ⊢
          have HSq2 := HSq0
          generalize wr.alloc (.cells #[.int .i64 lit, .int .i64 len, .int .i64 off] 42) = ws at *
          clear HBx hsB
          refine wp_region_noPanic ?_
          refine wp_region_held_drew (S := fun W' => Blk W' b [.slice (some ⟨g14, 0, none⟩) 256 256, .slice (some ⟨g15, 0, none⟩) 44 44, .slice (some ⟨g16, 0, none⟩) 28 28, .slice (some ⟨g17, 0, none⟩) 44 44] 23 ∧ Blk W' sB [.int .i64 lit, .int .i64 len, .int .i64 off] 42) (by kernel_rfl) ⟨HS1.out.four, HSq2.out⟩ (fun hHeld => ?_)
          refine wpAnyH_take (i := 0) (v := .pointer (some ⟨b, 2, none⟩)) (by simp only [List.getElem?_toArray, List.getElem?_cons_zero]; rfl) (by kernel_rfl) (by kernel_rfl) (by kernel_rfl) (fun _ _ _ h => h) (Or.inl ⟨by rfl, fun W hSw => ?_⟩) (by assumption) ?_
          · clear hSw
            go_simp
          simp only [Act.put, List.setIfInBounds_toArray, List.set_cons_zero, List.set_cons_succ]
          refine wpAnyH_take (i := 1) (v := .slice (some ⟨g16, 0, none⟩) 28 28) (by simp only [List.getElem?_toArray, List.getElem?_cons_zero, List.getElem?_cons_succ]; rfl) (by kernel_rfl) (by kernel_rfl) (by kernel_rfl) (fun _ _ _ h => h) (Or.inl ⟨by rfl, fun W hSw => ?_⟩) (by assumption) ?_
          · have hcw := hSw.1.cell (k := 2) rfl
            go_simp
          simp only [Act.put, List.setIfInBounds_toArray, List.set_cons_zero, List.set_cons_succ]
          refine wpAnyH_take (i := 2) (v := .pointer (some ⟨sB, 2, none⟩)) (by simp only [List.getElem?_toArray, List.getElem?_cons_zero, List.getElem?_cons_succ]; rfl) (by kernel_rfl) (by kernel_rfl) (by kernel_rfl) (fun _ _ _ h => h) (Or.inl ⟨by rfl, fun W hSw => ?_⟩) (by assumption) ?_
          · clear hSw
            go_simp
          simp only [Act.put, List.setIfInBounds_toArray, List.set_cons_zero, List.set_cons_succ]
          refine wpAnyH_take (i := 3) (v := .int .i64 off) (by simp only [List.getElem?_toArray, List.getElem?_cons_zero, List.getElem?_cons_succ]; rfl) (by kernel_rfl) (by kernel_rfl) (by kernel_rfl) (fun _ _ _ h => h) (Or.inl ⟨by rfl, fun W hSw => ?_⟩) (by assumption) ?_
          · have hcw := hSw.2.cell (k := 2) rfl
            go_simp
          simp only [Act.put, List.setIfInBounds_toArray, List.set_cons_zero, List.set_cons_succ]
          refine wpAnyH_ready (rs := [4]) (by kernel_rfl) (by simp) ?_
          refine AllReadyH.cons (by simp only [List.getElem?_toArray, List.getElem?_cons_zero, List.getElem?_cons_succ]; rfl) (fun K hK => ?_) AllReadyH.nil
          rw [if_pos (by rfl)]
          go_simp
          go_at_call 53
          refine (HFar.out _).mono ?_
          rintro e w4 ⟨rfl, hb4⟩
          have HBa := hid ((show Below ws.heap.size ws ws.drew from (Below.refl _ _).drew).trans hb4)
          dsimp only
          refine hK.out _ _ ⟨(HS1.out.grow HBa.out).four, HSq2.out.below HBa.out HSq2.out.lt⟩ (fun _ => ?_)
          clear hK K hb4
          refine wpAnyH_ready (rs := [5]) (by kernel_rfl) (by simp) ?_
          refine AllReadyH.cons (by simp only [List.getElem?_toArray, List.getElem?_cons_zero, List.getElem?_cons_succ]; rfl) (fun K hK => ?_) AllReadyH.nil
          rw [if_pos (by rfl)]
          go_simp
          go_at_call 51
          refine (HCo2.out _).mono ?_
          rintro e w5 ⟨rfl, hb5⟩
          have HBc := hid (HBa.out.trans (hb5.mono HBa.out.size))
          dsimp only
          refine hK.out _ _ ⟨(HS1.out.grow HBc.out).four, HSq2.out.below HBc.out HSq2.out.lt⟩ (fun _ => ?_)
          clear hK K hb5
          have HT2 := hid (HS1.out.grow HBc.out)
          have HSr2 := hid (HSq2.out.below HBc.out HSq2.out.lt)
          have hcel := HT2.out.r2.cell (k := i2) (u := .int .i64 x2) (by rw [List.getElem?_map, HXi2.out]; rfl)
          have hcez := HT2.out.r2.frozen i2
          refine wpAnyH_take (i := 6) (v := .pointer (some ⟨g16, i2, none⟩)) (by simp only [List.getElem?_toArray, List.getElem?_cons_zero, List.getElem?_cons_succ]; rfl) (by kernel_rfl) (by kernel_rfl) (by kernel_rfl) (fun _ _ _ h => h) (Or.inl ⟨by rfl, fun W hSw => ?_⟩) (by assumption) ?_
          · clear hSw
            go_simp
          simp only [Act.put, List.setIfInBounds_toArray, List.set_cons_zero, List.set_cons_succ]
          refine wpAnyH_ready (rs := [7]) (by kernel_rfl) (by simp) ?_
          refine AllReadyH.cons (by simp only [List.getElem?_toArray, List.getElem?_cons_zero, List.getElem?_cons_succ]; rfl) (fun K hK => ?_) AllReadyH.nil
          rw [if_pos (by rfl)]
          go_simp
          refine hK.out _ _ ⟨HT2.out.four, HSr2.out⟩ (fun _ => ?_)
          clear hK K
          refine wpAnyH_take (i := 8) (v := .int .i64 (x2 + 1)) (by simp only [List.getElem?_toArray, List.getElem?_cons_zero, List.getElem?_cons_succ]; rfl) (by kernel_rfl) (by kernel_rfl) (by kernel_rfl) (fun _ _ _ h => h) (Or.inl ⟨by rfl, fun W hSw => ?_⟩) (by assumption) ?_
          · clear hSw
            go_simp
          simp only [Act.put, List.setIfInBounds_toArray, List.set_cons_zero, List.set_cons_succ]
          refine wpAnyH_take (i := 9) (v := .pointer (some ⟨g16, i2, none⟩)) (by simp only [List.getElem?_toArray, List.getElem?_cons_zero, List.getElem?_cons_succ]; rfl) (by kernel_rfl) (by kernel_rfl) (by kernel_rfl) (fun _ _ _ h => h) (Or.inl ⟨by rfl, fun W hSw => ?_⟩) (by assumption) ?_
          · clear hSw
            go_simp
          simp only [Act.put, List.setIfInBounds_toArray, List.set_cons_zero, List.set_cons_succ]
          have HU2 := hid (HT2.out.b2 HXi2.out)
          have HSs2 := hid (HSr2.out.other (a := ⟨g16, i2, none⟩) (.int .i64 (x2 + 1)) (blk_ne HT2.out.r2 HSr2.out (by decide)))
          refine wpAnyH_ready (rs := [10]) (by kernel_rfl) (by simp) ?_
          refine AllReadyH.cons (by simp only [List.getElem?_toArray, List.getElem?_cons_zero, List.getElem?_cons_succ]; rfl) (fun K hK => ?_) AllReadyH.nil
          rw [if_pos (by rfl)]
          go_simp
          refine hK.out _ _ ⟨HU2.out.four, HSs2.out⟩ (fun _ => ?_)
          clear hK K
          refine wpAnyH_done (by kernel_rfl) ?_ _
          refine NoPanic.normal ?_
          clear hcel hcez HBc HT2 HSr2
          generalize w5.setCell ⟨g16, i2, none⟩ (.int .i64 (x2 + 1)) = wn2 at *
          go_wp2_with fail
          have HSq1 := HSs2
          refine wp_region_noPanic ?_
          refine wp_region_held_drew (S := fun W' => Blk W' b [.slice (some ⟨g14, 0, none⟩) 256 256, .slice (some ⟨g15, 0, none⟩) 44 44, .slice (some ⟨g16, 0, none⟩) 28 28, .slice (some ⟨g17, 0, none⟩) 44 44] 23 ∧ Blk W' sB [.int .i64 lit, .int .i64 len, .int .i64 off] 42) (by kernel_rfl) ⟨HU2.out.four, HSq1.out⟩ (fun hHeld => ?_)
          refine wpAnyH_take (i := 0) (v := .pointer (some ⟨b, 1, none⟩)) (by simp only [List.getElem?_toArray, List.getElem?_cons_zero]; rfl) (by kernel_rfl) (by kernel_rfl) (by kernel_rfl) (fun _ _ _ h => h) (Or.inl ⟨by rfl, fun W hSw => ?_⟩) (by assumption) ?_
          · clear hSw
            go_simp
          simp only [Act.put, List.setIfInBounds_toArray, List.set_cons_zero, List.set_cons_succ]
          refine wpAnyH_take (i := 1) (v := .slice (some ⟨g15, 0, none⟩) 44 44) (by simp only [List.getElem?_toArray, List.getElem?_cons_zero, List.getElem?_cons_succ]; rfl) (by kernel_rfl) (by kernel_rfl) (by kernel_rfl) (fun _ _ _ h => h) (Or.inl ⟨by rfl, fun W hSw => ?_⟩) (by assumption) ?_
          · have hcw := hSw.1.cell (k := 1) rfl
            go_simp
          simp only [Act.put, List.setIfInBounds_toArray, List.set_cons_zero, List.set_cons_succ]
          refine wpAnyH_take (i := 2) (v := .pointer (some ⟨sB, 0, none⟩)) (by simp only [List.getElem?_toArray, List.getElem?_cons_zero, List.getElem?_cons_succ]; rfl) (by kernel_rfl) (by kernel_rfl) (by kernel_rfl) (fun _ _ _ h => h) (Or.inl ⟨by rfl, fun W hSw => ?_⟩) (by assumption) ?_
          · clear hSw
            go_simp
          simp only [Act.put, List.setIfInBounds_toArray, List.set_cons_zero, List.set_cons_succ]
          refine wpAnyH_take (i := 3) (v := .int .i64 lit) (by simp only [List.getElem?_toArray, List.getElem?_cons_zero, List.getElem?_cons_succ]; rfl) (by kernel_rfl) (by kernel_rfl) (by kernel_rfl) (fun _ _ _ h => h) (Or.inl ⟨by rfl, fun W hSw => ?_⟩) (by assumption) ?_
          · have hcw := hSw.2.cell (k := 0) rfl
            go_simp
          simp only [Act.put, List.setIfInBounds_toArray, List.set_cons_zero, List.set_cons_succ]
          refine wpAnyH_ready (rs := [4]) (by kernel_rfl) (by simp) ?_
          refine AllReadyH.cons (by simp only [List.getElem?_toArray, List.getElem?_cons_zero, List.getElem?_cons_succ]; rfl) (fun K hK => ?_) AllReadyH.nil
          rw [if_pos (by rfl)]
          go_simp
          go_at_call 51
          refine (HCo1.out _).mono ?_
          rintro e w5 ⟨rfl, hb5⟩
          have HBc := hid ((show Below wn2.heap.size wn2 wn2.drew from (Below.refl _ _).drew).trans (hb5.mono (show Below wn2.heap.size wn2 wn2.drew from (Below.refl _ _).drew).size))
          dsimp only
          refine hK.out _ _ ⟨(HU2.out.grow HBc.out).four, HSq1.out.below HBc.out HSq1.out.lt⟩ (fun _ => ?_)
          clear hK K hb5
          have HT1 := hid (HU2.out.grow HBc.out)
          have HSr1 := hid (HSq1.out.below HBc.out HSq1.out.lt)
          have hcel := HT1.out.r1.cell (k := i1) (u := .int .i64 x1) (by rw [List.getElem?_map, HXi1.out]; rfl)
          have hcez := HT1.out.r1.frozen i1
          refine wpAnyH_take (i := 5) (v := .pointer (some ⟨g15, i1, none⟩)) (by simp only [List.getElem?_toArray, List.getElem?_cons_zero, List.getElem?_cons_succ]; rfl) (by kernel_rfl) (by kernel_rfl) (by kernel_rfl) (fun _ _ _ h => h) (Or.inl ⟨by rfl, fun W hSw => ?_⟩) (by assumption) ?_
          · clear hSw
            go_simp
          simp only [Act.put, List.setIfInBounds_toArray, List.set_cons_zero, List.set_cons_succ]
          refine wpAnyH_ready (rs := [6]) (by kernel_rfl) (by simp) ?_
          refine AllReadyH.cons (by simp only [List.getElem?_toArray, List.getElem?_cons_zero, List.getElem?_cons_succ]; rfl) (fun K hK => ?_) AllReadyH.nil
          rw [if_pos (by rfl)]
          go_simp
          refine hK.out _ _ ⟨HT1.out.four, HSr1.out⟩ (fun _ => ?_)
          clear hK K
          refine wpAnyH_take (i := 7) (v := .int .i64 (x1 + 1)) (by simp only [List.getElem?_toArray, List.getElem?_cons_zero, List.getElem?_cons_succ]; rfl) (by kernel_rfl) (by kernel_rfl) (by kernel_rfl) (fun _ _ _ h => h) (Or.inl ⟨by rfl, fun W hSw => ?_⟩) (by assumption) ?_
          · clear hSw
            go_simp
          simp only [Act.put, List.setIfInBounds_toArray, List.set_cons_zero, List.set_cons_succ]
          refine wpAnyH_take (i := 8) (v := .pointer (some ⟨g15, i1, none⟩)) (by simp only [List.getElem?_toArray, List.getElem?_cons_zero, List.getElem?_cons_succ]; rfl) (by kernel_rfl) (by kernel_rfl) (by kernel_rfl) (fun _ _ _ h => h) (Or.inl ⟨by rfl, fun W hSw => ?_⟩) (by assumption) ?_
          · clear hSw
            go_simp
          simp only [Act.put, List.setIfInBounds_toArray, List.set_cons_zero, List.set_cons_succ]
          have HU1 := hid (HT1.out.b1 HXi1.out)
          have HSs1 := hid (HSr1.out.other (a := ⟨g15, i1, none⟩) (.int .i64 (x1 + 1)) (blk_ne HT1.out.r1 HSr1.out (by decide)))
          refine wpAnyH_ready (rs := [9]) (by kernel_rfl) (by simp) ?_
          refine AllReadyH.cons (by simp only [List.getElem?_toArray, List.getElem?_cons_zero, List.getElem?_cons_succ]; rfl) (fun K hK => ?_) AllReadyH.nil
          rw [if_pos (by rfl)]
          go_simp
          refine hK.out _ _ ⟨HU1.out.four, HSs1.out⟩ (fun _ => ?_)
          clear hK K
          refine wpAnyH_done (by kernel_rfl) ?_ _
          refine NoPanic.normal ?_
          clear hcel hcez HBc HT1 HSr1
          generalize w5.setCell ⟨g15, i1, none⟩ (.int .i64 (x1 + 1)) = wn1 at *
          go_wp2_with fail
          have HSq3 := HSs1
          refine wp_region_noPanic ?_
          refine wp_region_held_drew (S := fun W' => Blk W' b [.slice (some ⟨g14, 0, none⟩) 256 256, .slice (some ⟨g15, 0, none⟩) 44 44, .slice (some ⟨g16, 0, none⟩) 28 28, .slice (some ⟨g17, 0, none⟩) 44 44] 23 ∧ Blk W' sB [.int .i64 lit, .int .i64 len, .int .i64 off] 42) (by kernel_rfl) ⟨HU1.out.four, HSq3.out⟩ (fun hHeld => ?_)
          refine wpAnyH_take (i := 0) (v := .pointer (some ⟨b, 3, none⟩)) (by simp only [List.getElem?_toArray, List.getElem?_cons_zero]; rfl) (by kernel_rfl) (by kernel_rfl) (by kernel_rfl) (fun _ _ _ h => h) (Or.inl ⟨by rfl, fun W hSw => ?_⟩) (by assumption) ?_
          · clear hSw
            go_simp
          simp only [Act.put, List.setIfInBounds_toArray, List.set_cons_zero, List.set_cons_succ]
          refine wpAnyH_take (i := 1) (v := .slice (some ⟨g17, 0, none⟩) 44 44) (by simp only [List.getElem?_toArray, List.getElem?_cons_zero, List.getElem?_cons_succ]; rfl) (by kernel_rfl) (by kernel_rfl) (by kernel_rfl) (fun _ _ _ h => h) (Or.inl ⟨by rfl, fun W hSw => ?_⟩) (by assumption) ?_
          · have hcw := hSw.1.cell (k := 3) rfl
            go_simp
          simp only [Act.put, List.setIfInBounds_toArray, List.set_cons_zero, List.set_cons_succ]
          refine wpAnyH_take (i := 2) (v := .pointer (some ⟨sB, 1, none⟩)) (by simp only [List.getElem?_toArray, List.getElem?_cons_zero, List.getElem?_cons_succ]; rfl) (by kernel_rfl) (by kernel_rfl) (by kernel_rfl) (fun _ _ _ h => h) (Or.inl ⟨by rfl, fun W hSw => ?_⟩) (by assumption) ?_
          · clear hSw
            go_simp
          simp only [Act.put, List.setIfInBounds_toArray, List.set_cons_zero, List.set_cons_succ]
          refine wpAnyH_take (i := 3) (v := .int .i64 len) (by simp only [List.getElem?_toArray, List.getElem?_cons_zero, List.getElem?_cons_succ]; rfl) (by kernel_rfl) (by kernel_rfl) (by kernel_rfl) (fun _ _ _ h => h) (Or.inl ⟨by rfl, fun W hSw => ?_⟩) (by assumption) ?_
          · have hcw := hSw.2.cell (k := 1) rfl
            go_simp
          simp only [Act.put, List.setIfInBounds_toArray, List.set_cons_zero, List.set_cons_succ]
          refine wpAnyH_take (i := 4) (v := .int .i64 (len - 3)) (by simp only [List.getElem?_toArray, List.getElem?_cons_zero, List.getElem?_cons_succ]; rfl) (by kernel_rfl) (by kernel_rfl) (by kernel_rfl) (fun _ _ _ h => h) (Or.inl ⟨by rfl, fun W hSw => ?_⟩) (by assumption) ?_
          · clear hSw
            go_simp
          simp only [Act.put, List.setIfInBounds_toArray, List.set_cons_zero, List.set_cons_succ]
          refine wpAnyH_ready (rs := [5]) (by kernel_rfl) (by simp) ?_
          refine AllReadyH.cons (by simp only [List.getElem?_toArray, List.getElem?_cons_zero, List.getElem?_cons_succ]; rfl) (fun K hK => ?_) AllReadyH.nil
          rw [if_pos (by rfl)]
          go_simp
          go_at_call 51
          refine (HCo3.out _).mono ?_
          rintro e w5 ⟨rfl, hb5⟩
          have HBc := hid ((show Below wn1.heap.size wn1 wn1.drew from (Below.refl _ _).drew).trans (hb5.mono (show Below wn1.heap.size wn1 wn1.drew from (Below.refl _ _).drew).size))
          dsimp only
          refine hK.out _ _ ⟨(HU1.out.grow HBc.out).four, HSq3.out.below HBc.out HSq3.out.lt⟩ (fun _ => ?_)
          clear hK K hb5
          have HT3 := hid (HU1.out.grow HBc.out)
          have HSr3 := hid (HSq3.out.below HBc.out HSq3.out.lt)
          have hcel := HT3.out.r3.cell (k := i3) (u := .int .i64 x3) (by rw [List.getElem?_map, HXi3.out]; rfl)
          have hcez := HT3.out.r3.frozen i3
          refine wpAnyH_take (i := 6) (v := .pointer (some ⟨g17, i3, none⟩)) (by simp only [List.getElem?_toArray, List.getElem?_cons_zero, List.getElem?_cons_succ]; rfl) (by kernel_rfl) (by kernel_rfl) (by kernel_rfl) (fun _ _ _ h => h) (Or.inl ⟨by rfl, fun W hSw => ?_⟩) (by assumption) ?_
          · clear hSw
            go_simp
          simp only [Act.put, List.setIfInBounds_toArray, List.set_cons_zero, List.set_cons_succ]
          refine wpAnyH_ready (rs := [7]) (by kernel_rfl) (by simp) ?_
          refine AllReadyH.cons (by simp only [List.getElem?_toArray, List.getElem?_cons_zero, List.getElem?_cons_succ]; rfl) (fun K hK => ?_) AllReadyH.nil
          rw [if_pos (by rfl)]
          go_simp
          refine hK.out _ _ ⟨HT3.out.four, HSr3.out⟩ (fun _ => ?_)
          clear hK K
          refine wpAnyH_take (i := 8) (v := .int .i64 (x3 + 1)) (by simp only [List.getElem?_toArray, List.getElem?_cons_zero, List.getElem?_cons_succ]; rfl) (by kernel_rfl) (by kernel_rfl) (by kernel_rfl) (fun _ _ _ h => h) (Or.inl ⟨by rfl, fun W hSw => ?_⟩) (by assumption) ?_
          · clear hSw
            go_simp
          simp only [Act.put, List.setIfInBounds_toArray, List.set_cons_zero, List.set_cons_succ]
          refine wpAnyH_take (i := 9) (v := .pointer (some ⟨g17, i3, none⟩)) (by simp only [List.getElem?_toArray, List.getElem?_cons_zero, List.getElem?_cons_succ]; rfl) (by kernel_rfl) (by kernel_rfl) (by kernel_rfl) (fun _ _ _ h => h) (Or.inl ⟨by rfl, fun W hSw => ?_⟩) (by assumption) ?_
          · clear hSw
            go_simp
          simp only [Act.put, List.setIfInBounds_toArray, List.set_cons_zero, List.set_cons_succ]
          have HU3 := hid (HT3.out.b3 HXi3.out)
          have HSs3 := hid (HSr3.out.other (a := ⟨g17, i3, none⟩) (.int .i64 (x3 + 1)) (blk_ne HT3.out.r3 HSr3.out (by decide)))
          refine wpAnyH_ready (rs := [10]) (by kernel_rfl) (by simp) ?_
          refine AllReadyH.cons (by simp only [List.getElem?_toArray, List.getElem?_cons_zero, List.getElem?_cons_succ]; rfl) (fun K hK => ?_) AllReadyH.nil
          rw [if_pos (by rfl)]
          go_simp
          refine hK.out _ _ ⟨HU3.out.four, HSs3.out⟩ (fun _ => ?_)
          clear hK K
          refine wpAnyH_done (by kernel_rfl) ?_ _
          refine NoPanic.normal ?_
          clear hcel hcez HBc HT3 HSr3
          generalize w5.setCell ⟨g17, i3, none⟩ (.int .i64 (x3 + 1)) = wn3 at *
          go_wp2_with fail
          go_roundw
          case rel => exact ⟨k + 1, by have := HLt.out; omega, by go_num, by rw [HSn1.out, HSn2.out, HSn3.out]; exact HU3.out, HNx.out⟩
          case measure => have := HLt.out; simp [intOf]; omega
        · have hofb : off < 1 ∨ 134217728 < off := by
            unfold offOk at hof
            simp only [Bool.and_eq_true, decide_eq_true_eq] at hof
            omega
          have HFar : Hid (∀ W, Calls Tryz.prog 53 #[.int .i64 off] W (PanV W 2)) := hid (fun W => by
            have := prfar_any off W HWf.out.1 HWf.out.2
            rw [if_pos hofb] at this
            exact this)
          have HS1 := hid (HS.out.grow HBx.out)
          clear hbl hsk hof hofb hq1 hq2 hq3 hq4 hllk hlt hk hS
          go_wp2_with fail
          clear y0 y1 y2
          obtain ⟨sB, hsB⟩ : ∃ sB, sB = wr.heap.size := ⟨_, rfl⟩
          rw [← hsB] at HSq0 ⊢
          have HSq2 := HSq0
          generalize wr.alloc (.cells #[.int .i64 lit, .int .i64 len, .int .i64 off] 42) = ws at *
          clear HBx hsB
          refine Code.wp_mono (Q := FpPan w 2 [{ target := Target.fn (Fn.func 48) #[], args := #[.pointer (some ⟨w.heap.size + 1, 0, none⟩), .func (.func 49) #[] #[.pointer (some ⟨w.heap.size, 0, none⟩)]] }] ws) (fun e a' w' hq => ?_) ?_
          · cases e with
            | panic c =>
              obtain ⟨rfl, hd, h2, h3, hb⟩ := hq
              have HSx := hid (HS1.out.grow hb)
              have HPx := hid HSx.out.p
              have HEx := hid HSx.out.e
              have HLx := hid HSx.out.low
              have p0 := HPx.out.cell (k := 0) rfl
              have p1 := HPx.out.frozen 0
              have e0 := (HEx.out.other (a := ⟨w.heap.size, 0, none⟩) (.pointer none) (by simp)).cell (k := 0) rfl
              have e1 := (HEx.out.other (a := ⟨w.heap.size, 0, none⟩) (.pointer none) (by simp)).frozen 0
              have HE1' := hid (((HPx.out.set 0 (.pointer none)).other (a := ⟨w.heap.size + 1, 0, none⟩) (.int .i64 2) (by simp)).cell (k := 0) rfl)
              have HE2' := hid (((HEx.out.other (a := ⟨w.heap.size, 0, none⟩) (.pointer none) (by simp)).set 0 (.int .i64 2)).cell (k := 0) rfl)
              have HLow := hid ((HLx.out.setCell (p := ⟨w.heap.size, 0, none⟩) (Nat.le_refl _) (.pointer none)).setCell (p := ⟨w.heap.size + 1, 0, none⟩) (by simp) (.int .i64 2))
              show Leaves Tryz.prog Tryz.f20 a'.tmps _ a'.defers _ w'
              rw [hd]
              refine leaves_cons (f := 48) (args := #[.pointer (some ⟨w.heap.size + 1, 0, none⟩), .func (.func 49) #[] #[.pointer (some ⟨w.heap.size, 0, none⟩)]]) (by simp) (by simp [go_sem]) ?_
              refine (prcaught_err ⟨w.heap.size + 1, 0, none⟩ 2 0 49 _ w' _ (fun _ _ => by kernel_rfl) (prfrom1_any _ _ w' p0 p1) e0 e1).mono ?_
              rintro e u' w'' ⟨rfl, rfl, rfl⟩
              refine ⟨_, ?_, rfl, HLow.out⟩
              have q0 := HE1'.out
              have q1 := HE2'.out
              simp [results, Tryz.results20, go_sem, h2, h3, q0, q1]
            | _ => exact hq.elim
          refine wp_region_held_drew (S := fun W' => Blk W' b [.slice (some ⟨g14, 0, none⟩) 256 256, .slice (some ⟨g15, 0, none⟩) 44 44, .slice (some ⟨g16, 0, none⟩) 28 28, .slice (some ⟨g17, 0, none⟩) 44 44] 23 ∧ Blk W' sB [.int .i64 lit, .int .i64 len, .int .i64 off] 42) (by kernel_rfl) ⟨HS1.out.four, HSq2.out⟩ (fun hHeld => ?_)
          refine wpAnyH_take (i := 0) (v := .pointer (some ⟨b, 2, none⟩)) (by simp only [List.getElem?_toArray, List.getElem?_cons_zero]; rfl) (by kernel_rfl) (by kernel_rfl) (by kernel_rfl) (fun _ _ _ h => FpPan.put (d := 25) (by decide) h) (Or.inl ⟨by rfl, fun W hSw => ?_⟩) (by assumption) ?_
          · clear hSw
            go_simp
          simp only [Act.put, List.setIfInBounds_toArray, List.set_cons_zero, List.set_cons_succ]
          refine wpAnyH_take (i := 1) (v := .slice (some ⟨g16, 0, none⟩) 28 28) (by simp only [List.getElem?_toArray, List.getElem?_cons_zero, List.getElem?_cons_succ]; rfl) (by kernel_rfl) (by kernel_rfl) (by kernel_rfl) (fun _ _ _ h => FpPan.put (d := 26) (by decide) h) (Or.inl ⟨by rfl, fun W hSw => ?_⟩) (by assumption) ?_
          · have hcw := hSw.1.cell (k := 2) rfl
            go_simp
          simp only [Act.put, List.setIfInBounds_toArray, List.set_cons_zero, List.set_cons_succ]
          refine wpAnyH_take (i := 2) (v := .pointer (some ⟨sB, 2, none⟩)) (by simp only [List.getElem?_toArray, List.getElem?_cons_zero, List.getElem?_cons_succ]; rfl) (by kernel_rfl) (by kernel_rfl) (by kernel_rfl) (fun _ _ _ h => FpPan.put (d := 27) (by decide) h) (Or.inl ⟨by rfl, fun W hSw => ?_⟩) (by assumption) ?_
          · clear hSw
            go_simp
          simp only [Act.put, List.setIfInBounds_toArray, List.set_cons_zero, List.set_cons_succ]
          refine wpAnyH_take (i := 3) (v := .int .i64 off) (by simp only [List.getElem?_toArray, List.getElem?_cons_zero, List.getElem?_cons_succ]; rfl) (by kernel_rfl) (by kernel_rfl) (by kernel_rfl) (fun _ _ _ h => FpPan.put (d := 28) (by decide) h) (Or.inl ⟨by rfl, fun W hSw => ?_⟩) (by assumption) ?_
          · have hcw := hSw.2.cell (k := 2) rfl
            go_simp
          simp only [Act.put, List.setIfInBounds_toArray, List.set_cons_zero, List.set_cons_succ]
          refine wpAnyH_ready (rs := [4]) (by kernel_rfl) (by simp) ?_
          refine AllReadyH.cons (by simp only [List.getElem?_toArray, List.getElem?_cons_zero, List.getElem?_cons_succ]; rfl) (fun K hK => ?_) AllReadyH.nil
          rw [if_pos (by rfl)]
          go_simp
          go_at_call 53
          refine (HFar.out _).mono ?_
          rintro e w4 ⟨rfl, hb4⟩
          exact ⟨rfl, rfl, rfl, rfl, (show Below ws.heap.size ws ws.drew from (Below.refl _ _).drew).trans hb4⟩
      · obtain rfl : k = l.length := by omega
        have := HJ.out
        rw [List.take_of_length_le (Nat.le_refl _)] at this
        exact absurd this HOf.out
set_option maxRecDepth 100000 in
set_option maxHeartbeats 8000000 in
theorem prfrom_bad1 (w : World) (a : Option Addr) (cl : Nat) (l : List Sq) (ad : Option Addr) (c : Nat) (bs : List UInt8) (h : PdAt w a cl l ad c bs) (hp : plitsO bs l = false) :
    Calls Tryz.prog 20 #[.slice ad bs.length c, .slice a l.length cl] w (RetV w (.tuple #[.pointer none, .int .i64 15])) := by
  have hmk44 : ∀ W : World, (Instr.makeSlice 22 (.int .i64 44) (.int .i64 44)).run Tryz.prog W = .ok (.slice (some ⟨W.heap.size, 0, none⟩) 44 44) (W.alloc (.cells (List.replicate 44 (iv 0)).toArray 3)) := fun W => by
    rw [← show madeCells #[Value.int .i64 0] 44 = (List.replicate 44 (iv 0)).toArray from by kernel_rfl]
    exact run_make_row' (P := Tryz.prog) 22 3 (.int .i64 0) 8 Tryz.underlying22 Tryz.info_int rfl .i64 .i64 44 (by decide) (by decide) W
  have hmk28 : ∀ W : World, (Instr.makeSlice 22 (.int .i64 28) (.int .i64 28)).run Tryz.prog W = .ok (.slice (some ⟨W.heap.size, 0, none⟩) 28 28) (W.alloc (.cells (List.replicate 28 (iv 0)).toArray 3)) := fun W => by
    rw [← show madeCells #[Value.int .i64 0] 28 = (List.replicate 28 (iv 0)).toArray from by kernel_rfl]
    exact run_make_row' (P := Tryz.prog) 22 3 (.int .i64 0) 8 Tryz.underlying22 Tryz.info_int rfl .i64 .i64 28 (by decide) (by decide) W
  have HP1 := hid (show Blk ((w.alloc (.cells #[.pointer none] 28)).alloc (.cells #[.int .i64 0] 33)) w.heap.size [.pointer none] 28 from (Blk.newAt rfl).alloc _)
  have HE1 := hid (show Blk ((w.alloc (.cells #[.pointer none] 28)).alloc (.cells #[.int .i64 0] 33)) (w.heap.size + 1) [.int .i64 0] 33 from Blk.newAt (by simp))
  have HBl := hid (show Below w.heap.size w ((w.alloc (.cells #[.pointer none] 28)).alloc (.cells #[.int .i64 0] 33)) from (below_new w _).alloc (by simp) _)
  have HLit := hid (fun W (hb : Below ((w.alloc (.cells #[.pointer none] 28)).alloc (.cells #[.int .i64 0] 33)).heap.size ((w.alloc (.cells #[.pointer none] 28)).alloc (.cells #[.int .i64 0] 33)) W) => prliterals_bad W a cl l ad c bs ((h.low HBl.out).low hb) hp)
  clear h hp
  obtain ⟨lb, _⟩ : ∃ lb : List UInt8, lb = [] := ⟨_, rfl⟩
  go_enter_defers Tryz.func20, Tryz.ntmps20
  go_wp2_with fail
  generalize (w.alloc (.cells #[.pointer none] 28)).alloc (.cells #[.int .i64 0] 33) = wB at *
  have HI0 := hid (show FpI wB lb false false false false false false false false false undef undef undef undef undef undef undef undef wB.drew from
    ⟨(Below.refl _ _).drew, fun h => (by cases h), fun h => (by cases h), fun h => (by cases h), fun h => (by cases h), fun h => (by cases h), fun h => (by cases h), fun h => (by cases h), fun h => (by cases h), fun h => (by cases h), fun h => (by cases h), fun h => (by cases h), fun h => (by cases h)⟩)
  refine Code.wp_mono (Q := FpPan w 15 [{ target := Target.fn (Fn.func 48) #[], args := #[.pointer (some ⟨w.heap.size + 1, 0, none⟩), .func (.func 49) #[] #[.pointer (some ⟨w.heap.size, 0, none⟩)]] }] wB) (fun e a' w' hq => ?_) ?_
  · cases e with
    | panic c =>
      obtain ⟨rfl, hd, h2, h3, hb⟩ := hq
      have HPx := hid (HP1.out.below hb HP1.out.lt)
      have HEx := hid (HE1.out.below hb HE1.out.lt)
      have HLx := hid (HBl.out.trans (hb.mono HBl.out.size))
      have p0 := HPx.out.cell (k := 0) rfl
      have p1 := HPx.out.frozen 0
      have e0 := (HEx.out.other (a := ⟨w.heap.size, 0, none⟩) (.pointer none) (by simp)).cell (k := 0) rfl
      have e1 := (HEx.out.other (a := ⟨w.heap.size, 0, none⟩) (.pointer none) (by simp)).frozen 0
      have HE1' := hid (((HPx.out.set 0 (.pointer none)).other (a := ⟨w.heap.size + 1, 0, none⟩) (.int .i64 15) (by simp)).cell (k := 0) rfl)
      have HE2' := hid (((HEx.out.other (a := ⟨w.heap.size, 0, none⟩) (.pointer none) (by simp)).set 0 (.int .i64 15)).cell (k := 0) rfl)
      have HLow := hid ((HLx.out.setCell (p := ⟨w.heap.size, 0, none⟩) (Nat.le_refl _) (.pointer none)).setCell (p := ⟨w.heap.size + 1, 0, none⟩) (by simp) (.int .i64 15))
      show Leaves Tryz.prog Tryz.f20 a'.tmps _ a'.defers _ w'
      rw [hd]
      refine leaves_cons (f := 48) (args := #[.pointer (some ⟨w.heap.size + 1, 0, none⟩), .func (.func 49) #[] #[.pointer (some ⟨w.heap.size, 0, none⟩)]]) (by simp) (by simp [go_sem]) ?_
      refine (prcaught_err ⟨w.heap.size + 1, 0, none⟩ 15 0 49 _ w' _ (fun _ _ => by kernel_rfl) (prfrom1_any _ _ w' p0 p1) e0 e1).mono ?_
      rintro e u' w'' ⟨rfl, rfl, rfl⟩
      refine ⟨_, ?_, rfl, HLow.out⟩
      have q0 := HE1'.out
      have q1 := HE2'.out
      simp [results, Tryz.results20, go_sem, h2, h3, q0, q1]
    | _ => exact hq.elim
  refine wp_region_any (by kernel_rfl) ?_
  refine wpAny_take (i := 0) (v := .slice ad bs.length c) (by simp only [List.getElem?_toArray, List.getElem?_cons_zero]; rfl) (by kernel_rfl) (by kernel_rfl) (by kernel_rfl) (fun _ _ _ h => FpPan.put (d := 10) (by decide) h) (Or.inl ⟨by rfl, fun W => by go_simp⟩) ?_
  simp only [Act.put, List.setIfInBounds_toArray, List.set_cons_zero, List.set_cons_succ]
  refine wpAny_take (i := 1) (v := .slice a l.length cl) (by simp only [List.getElem?_toArray, List.getElem?_cons_zero, List.getElem?_cons_succ]; rfl) (by kernel_rfl) (by kernel_rfl) (by kernel_rfl) (fun _ _ _ h => FpPan.put (d := 11) (by decide) h) (Or.inl ⟨by rfl, fun W => by go_simp⟩) ?_
  simp only [Act.put, List.setIfInBounds_toArray, List.set_cons_zero, List.set_cons_succ]
  refine wpAny_inv (by kernel_rfl) (fun L a0 W => (L.getD 10 false = false ∧ L.getD 0 true = true ∧ L.getD 1 true = true ∧ L.getD 2 false = false ∧ L.getD 4 false = false ∧ ∃ v12 v13 v14 v15 v16 v17 v18 v6, a0 = { tmps := #[.slice ad bs.length c, .slice a l.length cl, undef, undef, .pointer (some ⟨w.heap.size, 0, none⟩), .pointer (some ⟨w.heap.size + 1, 0, none⟩), v6, undef, undef, .func (.func 49) #[] #[.pointer (some ⟨w.heap.size, 0, none⟩)], .slice ad bs.length c, .slice a l.length cl, v12, v13, v14, v15, v16, v17, v18, undef, undef, undef, undef, undef, undef, undef, undef, undef, undef, undef, undef, undef, undef, undef, undef, undef, undef, undef, undef, undef, undef, undef, undef, undef, undef, undef, undef, undef, undef, undef, undef, undef, undef, undef, undef, undef, undef, undef, undef], defers := [{ target := Target.fn (Fn.func 48) #[], args := #[.pointer (some ⟨w.heap.size + 1, 0, none⟩), .func (.func 49) #[] #[.pointer (some ⟨w.heap.size, 0, none⟩)]] }] } ∧ FpI wB lb (L.getD 2 false) (L.getD 3 false) (L.getD 4 false) (L.getD 5 false) (L.getD 6 false) (L.getD 7 false) (L.getD 8 false) (L.getD 9 false) false v12 v13 v14 v15 v16 v17 v18 v6 W) ∨ False) ?_ ?_ _ _ _ _ (by rfl) (.inl ⟨rfl, rfl, rfl, rfl, rfl, _, _, _, _, _, _, _, _, rfl, HI0.out⟩) (by decide)
  · intro i o ho listed a' W hs hinv hnl hd K hK
    rcases hinv with ⟨hl10, h0, h1, hl2, hl4, v12, v13, v14, v15, v16, v17, v18, v6, rfl, hI⟩ | hf
    rotate_left
    · exact hf.elim
    rcases i with _ | _ | _ | _ | _ | _ | _ | _ | _ | _ | _ | i
    · rw [h0] at hnl; cases hnl
    · have h1' : listed.getD (0 + 1) true = true := h1
      rw [h1'] at hnl; cases hnl
    · simp only [List.getElem?_toArray, List.getElem?_cons_zero, List.getElem?_cons_succ, Option.some.injEq, Nat.zero_add, Nat.reduceAdd] at ho
      subst ho
      rw [if_pos (by rfl)]
      go_simp
      go_at_call 25
      refine (HLit.out W hI.low).mono ?_
      rintro e W' ⟨rfl, hb⟩
      exact ⟨rfl, rfl, rfl, rfl, hI.low.trans (hb.mono hI.low.size)⟩
    · simp only [List.getElem?_toArray, List.getElem?_cons_zero, List.getElem?_cons_succ, Option.some.injEq, Nat.zero_add, Nat.reduceAdd] at ho
      subst ho
      have d2 := hd { on := 2, ground := .data } (by simp) (by rfl)
      rw [hl2] at d2; cases d2
    · simp only [List.getElem?_toArray, List.getElem?_cons_zero, List.getElem?_cons_succ, Option.some.injEq, Nat.zero_add, Nat.reduceAdd] at ho
      subst ho
      have d2 := hd { on := 2, ground := .chain } (by simp) (by rfl)
      rw [hl2] at d2; cases d2
    · simp only [List.getElem?_toArray, List.getElem?_cons_zero, List.getElem?_cons_succ, Option.some.injEq, Nat.zero_add, Nat.reduceAdd] at ho
      subst ho
      rw [if_pos (by rfl)]
      go_simp
      refine hK _ _ (.inl ⟨(by rw [getD_set_ne' false (by decide)]; exact hl10), (by rw [getD_set_ne' true (by decide)]; exact h0), (by rw [getD_set_ne' true (by decide)]; exact h1), (by rw [getD_set_ne' false (by decide)]; exact hl2), (by rw [getD_set_ne' false (by decide)]; exact hl4), v12, v13, v14, .slice (some ⟨W.heap.size, 0, none⟩) 44 44, v16, v17, v18, v6, rfl, ?_⟩)
      rw [getD_set_eq false (show 5 < listed.size by rw [hs]; decide), getD_set_ne' false (show 5 ≠ 2 by decide), getD_set_ne' false (show 5 ≠ 3 by decide), getD_set_ne' false (show 5 ≠ 4 by decide), getD_set_ne' false (show 5 ≠ 6 by decide), getD_set_ne' false (show 5 ≠ 7 by decide), getD_set_ne' false (show 5 ≠ 8 by decide), getD_set_ne' false (show 5 ≠ 9 by decide)]
      exact hI.did5
    · simp only [List.getElem?_toArray, List.getElem?_cons_zero, List.getElem?_cons_succ, Option.some.injEq, Nat.zero_add, Nat.reduceAdd] at ho
      subst ho
      rw [if_pos (by rfl)]
      go_simp
      refine hK _ _ (.inl ⟨(by rw [getD_set_ne' false (by decide)]; exact hl10), (by rw [getD_set_ne' true (by decide)]; exact h0), (by rw [getD_set_ne' true (by decide)]; exact h1), (by rw [getD_set_ne' false (by decide)]; exact hl2), (by rw [getD_set_ne' false (by decide)]; exact hl4), v12, v13, v14, v15, .slice (some ⟨W.heap.size, 0, none⟩) 28 28, v17, v18, v6, rfl, ?_⟩)
      rw [getD_set_eq false (show 6 < listed.size by rw [hs]; decide), getD_set_ne' false (show 6 ≠ 2 by decide), getD_set_ne' false (show 6 ≠ 3 by decide), getD_set_ne' false (show 6 ≠ 4 by decide), getD_set_ne' false (show 6 ≠ 5 by decide), getD_set_ne' false (show 6 ≠ 7 by decide), getD_set_ne' false (show 6 ≠ 8 by decide), getD_set_ne' false (show 6 ≠ 9 by decide)]
      exact hI.did6
    · simp only [List.getElem?_toArray, List.getElem?_cons_zero, List.getElem?_cons_succ, Option.some.injEq, Nat.zero_add, Nat.reduceAdd] at ho
      subst ho
      rw [if_pos (by rfl)]
      go_simp
      refine hK _ _ (.inl ⟨(by rw [getD_set_ne' false (by decide)]; exact hl10), (by rw [getD_set_ne' true (by decide)]; exact h0), (by rw [getD_set_ne' true (by decide)]; exact h1), (by rw [getD_set_ne' false (by decide)]; exact hl2), (by rw [getD_set_ne' false (by decide)]; exact hl4), v12, v13, v14, v15, v16, .slice (some ⟨W.heap.size, 0, none⟩) 44 44, v18, v6, rfl, ?_⟩)
      rw [getD_set_eq false (show 7 < listed.size by rw [hs]; decide), getD_set_ne' false (show 7 ≠ 2 by decide), getD_set_ne' false (show 7 ≠ 3 by decide), getD_set_ne' false (show 7 ≠ 4 by decide), getD_set_ne' false (show 7 ≠ 5 by decide), getD_set_ne' false (show 7 ≠ 6 by decide), getD_set_ne' false (show 7 ≠ 8 by decide), getD_set_ne' false (show 7 ≠ 9 by decide)]
      exact hI.did7
    · simp only [List.getElem?_toArray, List.getElem?_cons_zero, List.getElem?_cons_succ, Option.some.injEq, Nat.zero_add, Nat.reduceAdd] at ho
      subst ho
      have d4 := hd { on := 4, ground := .data } (by simp) (by rfl)
      rw [hl4] at d4; cases d4
    · simp only [List.getElem?_toArray, List.getElem?_cons_zero, List.getElem?_cons_succ, Option.some.injEq, Nat.zero_add, Nat.reduceAdd] at ho
      subst ho
      rw [if_pos (by rfl)]
      go_simp
      refine hK _ _ (.inl ⟨(by rw [getD_set_ne' false (by decide)]; exact hl10), (by rw [getD_set_ne' true (by decide)]; exact h0), (by rw [getD_set_ne' true (by decide)]; exact h1), (by rw [getD_set_ne' false (by decide)]; exact hl2), (by rw [getD_set_ne' false (by decide)]; exact hl4), v12, v13, v14, v15, v16, v17, v18, .pointer (some ⟨W.heap.size, 0, none⟩), rfl, ?_⟩)
      rw [getD_set_eq false (show 9 < listed.size by rw [hs]; decide), getD_set_ne' false (show 9 ≠ 2 by decide), getD_set_ne' false (show 9 ≠ 3 by decide), getD_set_ne' false (show 9 ≠ 4 by decide), getD_set_ne' false (show 9 ≠ 5 by decide), getD_set_ne' false (show 9 ≠ 6 by decide), getD_set_ne' false (show 9 ≠ 7 by decide), getD_set_ne' false (show 9 ≠ 8 by decide)]
      exact hI.did9 rfl
    · simp only [List.getElem?_toArray, List.getElem?_cons_zero, List.getElem?_cons_succ, Option.some.injEq, Nat.zero_add, Nat.reduceAdd] at ho
      subst ho
      have d2 := hd { on := 2, ground := .phase } (by simp) (by rfl)
      rw [hl2] at d2; cases d2
    · simp at ho
  · intro listed a' W hs hinv hall
    rcases hinv with ⟨hl10, _⟩ | hf
    · have h10 := getD_tf2 (hall 10) (show 10 < listed.size by rw [hs]; decide)
      rw [hl10] at h10; cases h10
    · exact hf.elim
end Go.Proofs.YtolmmfbgljgdcaaGreat
