/-
  The walks of layer 33 (best): the table of a finder and a cost model.
-/
import Derived.Test.YtlgablepckmogaaGreatQ26
import Derived.Test.YtlgablepckmogaaGreatQ29
import Derived.Test.YtlgablepckmogaaGreatQ30
import Derived.Test.YtlgablepckmogaaGreatQ32
import Derived.LoopIn
import Derived.Deep.LoopGhost
import Derived.Deep.CutBlock
import Derived.WalkMore
namespace Go.Proofs.YtlgablepckmogaaGreat
open Go.RowKit Go.Port
attribute [local go_sem] Oper.semAt_some
/-- The world while the table is made: nothing of w7 is touched but the two rows. -/
structure TabIn (w w7 : World) (gc gf n : Nat) (t : List (Sq × Int)) (wr : World) : Prop where
  low : Below w.heap.size w wr
  sz : w7.heap.size ≤ wr.heap.size
  kp : ∀ k, k < w7.heap.size → k ≠ gc → k ≠ gf → wr.heap[k]? = w7.heap[k]?
  c : Blk wr gc ((costsN n t).map iv) 3
  f : Blk wr gf ((firstsN n t).flatMap sqc) 43
set_option maxRecDepth 100000 in
theorem bof_ok (W : World) (M : Nat) (C : Nat → List Int) (q3 q6 q7 q4 T gc gf : Nat) (a : Option Addr) (cd : Nat) (data : List UInt8) (i r : Nat) (ch : Int → List Sq) (hT : TabAt W M C q3 q6 q7 q4 T gc gf a cd data i (costsN data.length (tab C data ch data.length r)))
    (hch : Choices data.length ch) (hr : r + 1 ≤ data.length) (hi : i = data.length - (r + 1)) (hn : data.length ≤ 1000000) (s : Sq) (hs : s = ⟨0, 0, 0⟩ ∨ s ∈ ch (i : Int)) :
    Calls Tryz.prog 110 #[.agg #[.int .i64 s.lit, .int .i64 s.len, .int .i64 s.off], .pointer (some ⟨q3, 0, none⟩), .pointer (some ⟨q6, 0, none⟩), .pointer (some ⟨q7, 0, none⟩), .pointer (some ⟨q4, 0, none⟩)] W (RetV W (.int .i64 (ofS C data i (tab C data ch data.length r) s))) := by
  have hC := hT.pr.ok
  have hl := tab_length C data ch data.length r
  have hcl : (costsN data.length (tab C data ch data.length r)).length = data.length + 1 := costsN_length (by omega)
  have hcb := costsN_mem (n := data.length) (t := tab C data ch data.length r) (B := 1000000000000) (by decide) (fun j => by have := tab_bounds C data ch data.length hC r j; omega)
  rcases hs with rfl | hs
  · have h := btab_lit W M C q3 q6 q7 q4 T gc gf a cd data i _ hT hn hcl hcb (by omega) 0 0
    have e := costsN_get (n := data.length) (t := tab C data ch data.length r) 0
    rw [hl, show data.length - r + 0 = i + 1 from by omega] at e
    rw [e] at h
    exact h
  · obtain ⟨h0, h1, h2, h3, h4, h5⟩ := hch.inn _ s hs
    obtain ⟨L, hL⟩ : ∃ L : Nat, s.len = (L : Int) := ⟨s.len.toNat, by omega⟩
    have h := btab_mat W M C q3 q6 q7 q4 T gc gf a cd data i _ hT hn hcl hcb (by omega) s.lit s.off L (by omega) (by omega) ⟨h4, h5⟩
    have e := costsN_get (n := data.length) (t := tab C data ch data.length r) (L - 1)
    rw [hl, show data.length - r + (L - 1) = i + L from by omega] at e
    rw [e] at h
    have e2 : ofS C data i (tab C data ch data.length r) s = (stepC C L s.off).getD 0 + costAt (tab C data ch data.length r) (L - 1) := by
      unfold ofS
      rw [if_neg (by omega), hL, show ((L : Int) - 1).toNat = L - 1 from by omega]
    rw [e2, hL]
    exact h
/-- The table as it is laid. -/
structure Tab5 (w : World) (M n : Nat) (av : Option Addr) (cv : Nat) (data : List UInt8) (T gc gf : Nat) (t : List (Sq × Int)) (W : World) : Prop where
  low : Below w.heap.size w W
  hT : w.heap.size + 3 ≤ T
  hc : w.heap.size + 3 ≤ gc
  hf : w.heap.size + 3 ≤ gf
  ncf : gc ≠ gf
  nTc : T ≠ gc
  nTf : T ≠ gf
  nd : ∀ x, av = some x → x.block ≠ gc ∧ x.block ≠ gf
  p : Blk W w.heap.size [.pointer (some ⟨M, 0, none⟩)] 88
  tp : Blk W (w.heap.size + 1) [.pointer (some ⟨T, 0, none⟩)] 160
  d : Blk W (w.heap.size + 1 + 1) [.slice av n cv] 22
  dc : Cs W av (data.map bv)
  row : Blk W T [.slice (some ⟨gc, 0, none⟩) (n + 1) (n + 1), .slice (some ⟨gf, 0, none⟩) n n] 166
  c : Blk W gc ((costsN n t).map iv) 3
  f : Blk W gf ((firstsN n t).flatMap sqc) 43
theorem TabIn.on {w w7 : World} {gc gf n : Nat} {t : List (Sq × Int)} {wr wr' : World} (h : TabIn w w7 gc gf n t wr) (hb : Below wr.heap.size wr wr') : TabIn w w7 gc gf n t wr' :=
  ⟨h.low.trans (hb.mono h.low.size), Nat.le_trans h.sz hb.size, fun k h1 h2 h3 => (hb.block k (Nat.lt_of_lt_of_le h1 h.sz)).trans (h.kp k h1 h2 h3), h.c.below hb h.c.lt, h.f.below hb h.f.lt⟩
theorem TabIn.blk {w w7 : World} {gc gf n : Nat} {t : List (Sq × Int)} {wr : World} (h : TabIn w w7 gc gf n t wr) {q : Nat} {vs : List Value} {e : TypeId} (hb : Blk w7 q vs e) (h1 : q ≠ gc) (h2 : q ≠ gf) : Blk wr q vs e :=
  (h.kp q hb.lt h1 h2).trans hb
theorem TabIn.cs {w w7 : World} {gc gf n : Nat} {t : List (Sq × Int)} {wr : World} (h : TabIn w w7 gc gf n t wr) {a : Option Addr} {vs : List Value} (hc : Cs w7 a vs) (hne : ∀ x, a = some x → x.block ≠ gc ∧ x.block ≠ gf) : Cs wr a vs := fun j u hu => by
  obtain ⟨b, o, e, h1, h2⟩ := hc j u hu
  have hn := hne _ e
  exact ⟨b, o, e, Nat.lt_of_lt_of_le h1 h.sz, (World.cell?_of_block (h.kp b h1 hn.1 hn.2)).trans h2⟩
theorem bset_low {w W : World} {b : Nat} (h : Below w.heap.size w W) (hb : w.heap.size ≤ b) (k : Nat) (u : Value) : Below w.heap.size w (W.setCell ⟨b, k, none⟩ u) := h.setCell (p := ⟨b, k, none⟩) hb u
theorem TabIn.store {w w7 : World} {gc gf n : Nat} {t : List (Sq × Int)} {wr : World} (h : TabIn w w7 gc gf n t wr) (hgc : w.heap.size ≤ gc) (hgf : w.heap.size ≤ gf) (hne : gc ≠ gf) (s : Sq) (v : Int) (ht : t.length + 1 ≤ n) :
    TabIn w w7 gc gf n ((s, v) :: t) ((((wr.setCell ⟨gf, (n - (t.length + 1)) * 3, none⟩ (.int .i64 s.lit)).setCell ⟨gf, (n - (t.length + 1)) * 3 + 1, none⟩ (.int .i64 s.len)).setCell ⟨gf, (n - (t.length + 1)) * 3 + 2, none⟩ (.int .i64 s.off)).setCell ⟨gc, n - (t.length + 1), none⟩ (.int .i64 v)) := by
  refine ⟨bset_low (bset_low (bset_low (bset_low h.low hgf _ _) hgf _ _) hgf _ _) hgc _ _, by simpa using h.sz, fun k h1 h2 h3 => ?_, ?_, ?_⟩
  · rw [Below.heap_setCell _ _ _ _ (by dsimp only; exact h2), Below.heap_setCell _ _ _ _ (by dsimp only; exact h3), Below.heap_setCell _ _ _ _ (by dsimp only; exact h3), Below.heap_setCell _ _ _ _ (by dsimp only; exact h3)]
    exact h.kp k h1 h2 h3
  · have hc := (((h.c.other (a := ⟨gf, (n - (t.length + 1)) * 3, none⟩) (.int .i64 s.lit) (by dsimp only; exact Ne.symm hne)).other (a := ⟨gf, (n - (t.length + 1)) * 3 + 1, none⟩) (.int .i64 s.len) (by dsimp only; exact Ne.symm hne)).other (a := ⟨gf, (n - (t.length + 1)) * 3 + 2, none⟩) (.int .i64 s.off) (by dsimp only; exact Ne.symm hne)).set (n - (t.length + 1)) (.int .i64 v)
    rw [show (Value.int .i64 v) = iv v from rfl, ← List.map_set, costsN_set ht] at hc
    exact hc
  · have hf := (((h.f.set ((n - (t.length + 1)) * 3) (.int .i64 s.lit)).set ((n - (t.length + 1)) * 3 + 1) (.int .i64 s.len)).set ((n - (t.length + 1)) * 3 + 2) (.int .i64 s.off)).other (a := ⟨gc, n - (t.length + 1), none⟩) (.int .i64 v) (by dsimp only; exact hne)
    rw [sqc_set s _ _ (by rw [firstsN_length (by omega)]; omega), firstsN_set (v := v) ht] at hf
    exact hf
set_option maxRecDepth 1000000 in
set_option maxHeartbeats 16000000 in
theorem btabled_ok (bs : List UInt8) (A : Nat) (Wd D : Int) (F M : Nat) (C : Nat → List Int) (w : World) (hf : FdAt 50 79 bs A Wd D F w) (hp : PrAt w M C) (hch : Choices (bs.drop A).length (fun i => bSteps (allS bs A Wd D i))) :
    Calls Tryz.prog 84 #[.pointer (some ⟨F, 0, none⟩), .pointer (some ⟨M, 0, none⟩)] w fun e w' => ∃ T gc gf, e = .returned (.tuple #[.pointer (some ⟨T, 0, none⟩), .int .i64 0]) ∧ Below w.heap.size w w' ∧ w.heap.size ≤ T ∧ w.heap.size ≤ gc ∧ w.heap.size ≤ gf ∧
      Blk w' T [.slice (some ⟨gc, 0, none⟩) ((bs.drop A).length + 1) ((bs.drop A).length + 1), .slice (some ⟨gf, 0, none⟩) (bs.drop A).length (bs.drop A).length] 166 ∧ Blk w' gc ((costsL (tab C (bs.drop A) (fun i => bSteps (allS bs A Wd D i)) (bs.drop A).length (bs.drop A).length)).map iv) 3 ∧ Blk w' gf (((tab C (bs.drop A) (fun i => bSteps (allS bs A Wd D i)) (bs.drop A).length (bs.drop A).length).map (·.1)).flatMap sqc) 43 := by
  have hC := hp.ok
  have hn := hf.hn
  have hA := hf.hA
  have HNo := hid (fun W (hb : Below w.heap.size w W) => bnone_ok bs A Wd D F M C W (hf.low hb) (hp.low hb))
  have HDa := hid (fun W (hb : Below w.heap.size w W) => cdata_any bs A Wd D F W (hf.low hb))
  have HSt := hid (fun (i : Int) W (hb : Below w.heap.size w W) => bsteps_any bs A Wd D F i W (hf.low hb))
  have HPr := hid (fun W (hb : Below w.heap.size w W) => hp.low hb)
  have hdl : (bs.drop A).length = bs.length - A := List.length_drop
  have hnd : (bs.drop A).length ≤ 1000000 := by omega
  obtain ⟨data, hdata⟩ : ∃ data, data = (bs.drop A) := ⟨_, rfl⟩
  obtain ⟨ch, hchd⟩ : ∃ ch : Int → List Sq, ch = (fun i => bSteps (allS bs A Wd D i)) := ⟨_, rfl⟩
  have HSt2 := hid (show ∀ (i : Int) W (hb : Below w.heap.size w W), Calls Tryz.prog 113 #[.pointer (some ⟨F, 0, none⟩), .int .i64 i] W fun e w' => ∃ a, e = .returned (.slice a (ch i).length (ch i).length) ∧ CellsAt w' a ((ch i).flatMap sqc) ∧ Below W.heap.size W w' ∧ ∀ x, a = some x → W.heap.size ≤ x.block from by subst hchd; exact HSt.out)
  have HLn := hid (show ∀ i, (ch i).length ≤ 63 from fun i => by subst hchd; exact bSteps_length _)
  rw [← hdl, ← hdata] at HDa
  rw [← hdata, ← hchd] at hch ⊢
  rw [← hdata] at hnd
  clear hf hp HSt hdl hdata hchd hn hA
  obtain ⟨n, hnn⟩ : ∃ n, data.length = n := ⟨_, rfl⟩
  have HCh := hid hch
  have HCk := hid hC
  have HN := hid hnn
  rw [hnn] at HDa hnd ⊢
  have hinfo : (Tryz.prog.info? 3).map (fun i => (i.zero, i.size, i.bytes)) = some (some (.int .i64 0), 1, 8) := Tryz.info_int
  obtain ⟨i1, hi1, hi1z, hi1s, hi1b⟩ := info_parts Tryz.info_int
  obtain ⟨i2, hi2, hi2z, hi2s, hi2b⟩ := info_parts Tryz.info_seq
  have hmkI : ∀ W : World, (Instr.makeSlice 77 (.int .i64 ((n : Int) + 1)) (.int .i64 ((n : Int) + 1))).run Tryz.prog W = .ok (.slice (some ⟨W.heap.size, 0, none⟩) (n + 1) (n + 1)) (W.alloc (.cells ((costsN n []).map iv).toArray 3)) := fun W => by
    have h := run_make (P := Tryz.prog) W 77 3 i1 (.int .i64 0) Tryz.underlying77 hi1 hi1z .i64 .i64 (n + 1 : Nat) (n + 1 : Nat) (by omega) (Int.le_refl _) (by rw [hi1b]; omega) (by omega)
    rw [made_all (u := .int .i64 0) (fun j hj => by
      have : j = 0 := by simpa [Value.cells] using hj
      subst this
      rfl) (by simp [Value.cells]), hi1s, Int.toNat_natCast, Nat.mul_one] at h
    have e9 : ((costsN n []).map iv) = List.replicate (n + 1) (.int .i64 0) := by unfold costsN costsL; simp [List.replicate_succ', iv]
    rw [e9, show ((n : Int) + 1) = ((n + 1 : Nat) : Int) from by omega]
    exact h
  have hmkS : ∀ W : World, (Instr.makeSlice 28 (.int .i64 (n : Int)) (.int .i64 (n : Int))).run Tryz.prog W = .ok (.slice (some ⟨W.heap.size, 0, none⟩) n n) (W.alloc (.cells ((firstsN n []).flatMap sqc).toArray 43)) := fun W => by
    have h := run_make (P := Tryz.prog) W 28 43 i2 (.agg #[.int .i64 0, .int .i64 0, .int .i64 0]) Tryz.underlying28 hi2 hi2z .i64 .i64 n n (by omega) (Int.le_refl _) (by rw [hi2b]; omega) (by omega)
    rw [made_all (u := .int .i64 0) (fun j hj => by
      have : j < 3 := by simpa [Value.cells] using hj
      rcases j with _ | _ | _ | j
      · rfl
      · rfl
      · rfl
      · omega) (by simp [Value.cells]), hi2s, Int.toNat_natCast] at h
    have e9 : ((firstsN n []).flatMap sqc) = List.replicate (n * 3) (.int .i64 0) := by unfold firstsN; simp only [List.length_nil, Nat.sub_zero, List.map_nil, List.append_nil]; exact zeros_sqc n
    rw [e9]
    exact h
  clear hi1 hi1z hi1s hi1b hi2 hi2z hi2s hi2b hinfo hch hC hnn
  have hw9 : IntKind.i64.wrap ((n : Int) + 1) = (n : Int) + 1 := by rw [IntKind.wrap_i64]; omega
  have hP3 := (((Blk.newAt rfl : Blk (w.alloc (.cells #[.pointer (some ⟨M, 0, none⟩)] 88)) w.heap.size [.pointer (some ⟨M, 0, none⟩)] 88).alloc (.cells #[.pointer none] 160)).alloc (.cells #[.slice none 0 0] 22))
  have hT3 := ((Blk.newAt (by simp) : Blk ((w.alloc (.cells #[.pointer (some ⟨M, 0, none⟩)] 88)).alloc (.cells #[.pointer none] 160)) (w.heap.size + 1) [.pointer none] 160).alloc (.cells #[.slice none 0 0] 22))
  have hD3 := (Blk.newAt (by simp) : Blk (((w.alloc (.cells #[.pointer (some ⟨M, 0, none⟩)] 88)).alloc (.cells #[.pointer none] 160)).alloc (.cells #[.slice none 0 0] 22)) (w.heap.size + 1 + 1) [.slice none 0 0] 22)
  have hB3 : Below w.heap.size w (((w.alloc (.cells #[.pointer (some ⟨M, 0, none⟩)] 88)).alloc (.cells #[.pointer none] 160)).alloc (.cells #[.slice none 0 0] 22)) := ((below_new w _).alloc (by simp) _).alloc (by simp; omega) _
  have HP3 := hid hP3
  have HT3 := hid hT3
  have HD3 := hid hD3
  have HB3 := hid hB3
  have p3 := hP3.cell (k := 0) rfl
  clear hP3 hT3 hD3 hB3
  go_enter Tryz.func84, Tryz.ntmps84
  go_wp2
  refine wp_scope_straight ?_
  go_wp2_with fail
  generalize ((w.alloc (.cells #[.pointer (some ⟨M, 0, none⟩)] 88)).alloc (.cells #[.pointer none] 160)).alloc (.cells #[.slice none 0 0] 22) = w3 at *
  refine (HNo.out _ HB3.out).mono ?_
  rintro e w4 ⟨rfl, hb4⟩
  have HP4 := hid (HP3.out.below hb4 HP3.out.lt)
  have HT4 := hid (HT3.out.below hb4 HT3.out.lt)
  have HD4 := hid (HD3.out.below hb4 HD3.out.lt)
  have HB4 := hid (HB3.out.trans (hb4.mono HB3.out.size))
  clear hb4 p3 HP3 HT3 HD3 HB3 HNo
  go_wp2_with fail
  refine (HDa.out _ HB4.out).mono ?_
  rintro e w5 ⟨v, rfl, hown, hb5⟩
  obtain ⟨av, cv, rfl⟩ := own_slice hown
  have HP5 := hid (HP4.out.below hb5 HP4.out.lt)
  have HT5 := hid (HT4.out.below hb5 HT4.out.lt)
  have HD5 := hid (HD4.out.below hb5 HD4.out.lt)
  have HB5 := hid (HB4.out.trans (hb5.mono HB4.out.size))
  have HZ5 := hid (show w.heap.size + 3 ≤ w5.heap.size from by have := HD5.out.lt; omega)
  have hdc : Cs w5 av (data.map bv) ∧ ∀ x, av = some x → w.heap.size + 3 ≤ x.block := by
    refine ⟨(Sl.of_owns hown).cells' rfl, fun x hx => ?_⟩
    have h1 := (hown.lt x.block (by rw [hx]; rfl)).1
    have := HD4.out.lt
    omega
  have HDc := hid hdc
  have HDl := hid (show ∀ x, av = some x → x.block < w5.heap.size from fun x hx => (hown.lt x.block (by rw [hx]; rfl)).2)
  have hd5 := HD5.out.cell (k := 0) rfl
  have hz5 := HD5.out.frozen 0
  have HQ6 := hid (HD5.out.set 0 (.slice av n cv))
  have HQ3 := hid (HP5.out.other (a := ⟨w.heap.size + 1 + 1, 0, none⟩) (.slice av n cv) (by dsimp only; omega))
  have HQ4 := hid (HT5.out.other (a := ⟨w.heap.size + 1 + 1, 0, none⟩) (.slice av n cv) (by dsimp only; omega))
  have HBq := hid (HB5.out.setCell (p := ⟨w.heap.size + 1 + 1, 0, none⟩) (by dsimp only; omega) (.slice av n cv))
  have HDq := hid (show Cs (w5.setCell ⟨w.heap.size + 1 + 1, 0, none⟩ (.slice av n cv)) av (data.map bv) from fun j u hu => by
    obtain ⟨b, o, e, h1, h2⟩ := HDc.out.1 j u hu
    have h3 := HDc.out.2 _ e
    dsimp only at h3
    exact ⟨b, o, e, by simpa using h1, (World.cell?_of_block (Below.heap_setCell _ ⟨w.heap.size + 1 + 1, 0, none⟩ _ b (by dsimp only; omega))).trans h2⟩)
  have HZq := hid (show (w5.setCell ⟨w.heap.size + 1 + 1, 0, none⟩ (.slice av n cv)).heap.size = w5.heap.size from by simp)
  clear hown hb5 hdc
  go_upto_region 5 with fail
  clear hd5 hz5
  generalize w5.setCell ⟨w.heap.size + 1 + 1, 0, none⟩ (.slice av n cv) = w6 at *
  go_cut [] (fun wx => ∃ T gc gf, Tab5 w M n av cv data T gc gf [] wx)
  case first =>
    refine wp_region_noPanic ?_
    refine wp_region_held_drew (S := (fun W' => Blk W' (w.heap.size + 1 + 1) [.slice av n cv] 22)) (by kernel_rfl) HQ6.out (fun hHeld => ?_)
    have HBd := hid (show Below w6.heap.size w6 w6.drew from (Below.refl _ _).drew)
    have HSd := hid (show w6.drew.heap.size = w6.heap.size from rfl)
    have HQd := hid (show Blk w6.drew (w.heap.size + 1 + 1) [.slice av n cv] 22 from HQ6.out)
    generalize w6.drew = wd at *
    refine wpAnyH_take (i := 0) (v := .slice av n cv) (by simp only [List.getElem?_toArray, List.getElem?_cons_zero]; rfl) (by kernel_rfl) (by kernel_rfl) (by kernel_rfl) (fun _ _ _ h => h) (Or.inl ⟨by rfl, fun W hSw => ?_⟩) (by assumption) ?_
    · have cc := hSw.cell (k := 0) rfl
      clear hSw
      go_simp
    simp only [Act.put, List.setIfInBounds_toArray, List.set_cons_zero, List.set_cons_succ]
    refine wpAnyH_take (i := 1) (v := .int .i64 (n : Int)) (by simp only [List.getElem?_toArray, List.getElem?_cons_zero, List.getElem?_cons_succ]; rfl) (by kernel_rfl) (by kernel_rfl) (by kernel_rfl) (fun _ _ _ h => h) (Or.inl ⟨by rfl, fun W hSw => ?_⟩) (by assumption) ?_
    · clear hSw
      go_simp
    simp only [Act.put, List.setIfInBounds_toArray, List.set_cons_zero, List.set_cons_succ]
    refine wpAnyH_take (i := 2) (v := .int .i64 ((n : Int) + 1)) (by simp only [List.getElem?_toArray, List.getElem?_cons_zero, List.getElem?_cons_succ]; rfl) (by kernel_rfl) (by kernel_rfl) (by kernel_rfl) (fun _ _ _ h => h) (Or.inl ⟨by rfl, fun W hSw => ?_⟩) (by assumption) ?_
    · clear hSw
      go_simp
    simp only [Act.put, List.setIfInBounds_toArray, List.set_cons_zero, List.set_cons_succ]
    refine wpAnyH_take (i := 4) (v := .slice av n cv) (by simp only [List.getElem?_toArray, List.getElem?_cons_zero, List.getElem?_cons_succ]; rfl) (by kernel_rfl) (by kernel_rfl) (by kernel_rfl) (fun _ _ _ h => h) (Or.inl ⟨by rfl, fun W hSw => ?_⟩) (by assumption) ?_
    · have cc := hSw.cell (k := 0) rfl
      clear hSw
      go_simp
    simp only [Act.put, List.setIfInBounds_toArray, List.set_cons_zero, List.set_cons_succ]
    refine wpAnyH_take (i := 5) (v := .int .i64 (n : Int)) (by simp only [List.getElem?_toArray, List.getElem?_cons_zero, List.getElem?_cons_succ]; rfl) (by kernel_rfl) (by kernel_rfl) (by kernel_rfl) (fun _ _ _ h => h) (Or.inl ⟨by rfl, fun W hSw => ?_⟩) (by assumption) ?_
    · clear hSw
      go_simp
    simp only [Act.put, List.setIfInBounds_toArray, List.set_cons_zero, List.set_cons_succ]
    refine wpAnyH_ready (rs := [3, 6]) (by kernel_rfl) (by simp) ?_
    refine AllReadyH.cons (by simp only [List.getElem?_toArray, List.getElem?_cons_zero, List.getElem?_cons_succ]; rfl) (fun K hK => ?_) (AllReadyH.cons (by simp only [List.getElem?_toArray, List.getElem?_cons_zero, List.getElem?_cons_succ]; rfl) (fun K hK => ?_) AllReadyH.nil)
    · rw [if_pos (by rfl)]
      go_simp
      refine hK.out _ _ ?_ (fun _ => ?_)
      · exact HQd.out.alloc _
      clear hK K
      refine wpAnyH_ready (rs := [6]) (by kernel_rfl) (by simp) ?_
      refine AllReadyH.cons (by simp only [List.getElem?_toArray, List.getElem?_cons_zero, List.getElem?_cons_succ]; rfl) (fun K hK => ?_) AllReadyH.nil
      rw [if_pos (by rfl)]
      go_simp
      refine hK.out _ _ ?_ (fun _ => ?_)
      · exact (HQd.out.alloc _).alloc _
      clear hK K
      refine wpAnyH_take (i := 7) (v := .agg #[.slice (some ⟨wd.heap.size, 0, none⟩) (n + 1) (n + 1), .slice (some ⟨(wd.heap.size + 1), 0, none⟩) n n]) (by simp only [List.getElem?_toArray, List.getElem?_cons_zero, List.getElem?_cons_succ]; rfl) (by kernel_rfl) (by kernel_rfl) (by kernel_rfl) (fun _ _ _ h => h) (Or.inl ⟨by rfl, fun W hSw => ?_⟩) (by assumption) ?_
      · clear hSw
        go_simp
      simp only [Act.put, List.setIfInBounds_toArray, List.set_cons_zero, List.set_cons_succ]
      refine wpAnyH_take (i := 8) (v := .agg #[.slice (some ⟨wd.heap.size, 0, none⟩) (n + 1) (n + 1), .slice (some ⟨(wd.heap.size + 1), 0, none⟩) n n]) (by simp only [List.getElem?_toArray, List.getElem?_cons_zero, List.getElem?_cons_succ]; rfl) (by kernel_rfl) (by kernel_rfl) (by kernel_rfl) (fun _ _ _ h => h) (Or.inl ⟨by rfl, fun W hSw => ?_⟩) (by assumption) ?_
      · clear hSw
        go_simp
      simp only [Act.put, List.setIfInBounds_toArray, List.set_cons_zero, List.set_cons_succ]
      refine wpAnyH_ready (rs := [9]) (by kernel_rfl) (by simp) ?_
      refine AllReadyH.cons (by simp only [List.getElem?_toArray, List.getElem?_cons_zero, List.getElem?_cons_succ]; rfl) (fun K hK => ?_) AllReadyH.nil
      rw [if_pos (by rfl)]
      go_simp
      refine hK.out _ _ ?_ (fun _ => ?_)
      · exact ((HQd.out.alloc _).alloc _).alloc _
      clear hK K
      have hB9 : Below w6.heap.size w6 (((wd.alloc (.cells ((costsN n []).map iv).toArray 3)).alloc (.cells ((firstsN n []).flatMap sqc).toArray 43)).alloc (.cells #[.slice (some ⟨wd.heap.size, 0, none⟩) (n + 1) (n + 1), .slice (some ⟨(wd.heap.size + 1), 0, none⟩) n n] 166)) := ((HBd.out.alloc HBd.out.size _).alloc (by have := HBd.out.size; simp; omega) _).alloc (by have := HBd.out.size; simp; omega) _
      have hc9 : Blk (((wd.alloc (.cells ((costsN n []).map iv).toArray 3)).alloc (.cells ((firstsN n []).flatMap sqc).toArray 43)).alloc (.cells #[.slice (some ⟨wd.heap.size, 0, none⟩) (n + 1) (n + 1), .slice (some ⟨(wd.heap.size + 1), 0, none⟩) n n] 166)) wd.heap.size ((costsN n []).map iv) 3 := ((Blk.newAt (by simp)).alloc _).alloc _
      have hf9 : Blk (((wd.alloc (.cells ((costsN n []).map iv).toArray 3)).alloc (.cells ((firstsN n []).flatMap sqc).toArray 43)).alloc (.cells #[.slice (some ⟨wd.heap.size, 0, none⟩) (n + 1) (n + 1), .slice (some ⟨(wd.heap.size + 1), 0, none⟩) n n] 166)) (wd.heap.size + 1) ((firstsN n []).flatMap sqc) 43 := (Blk.newAt (by simp)).alloc _
      have ht9 : Blk (((wd.alloc (.cells ((costsN n []).map iv).toArray 3)).alloc (.cells ((firstsN n []).flatMap sqc).toArray 43)).alloc (.cells #[.slice (some ⟨wd.heap.size, 0, none⟩) (n + 1) (n + 1), .slice (some ⟨(wd.heap.size + 1), 0, none⟩) n n] 166)) (wd.heap.size + 2) [.slice (some ⟨wd.heap.size, 0, none⟩) (n + 1) (n + 1), .slice (some ⟨(wd.heap.size + 1), 0, none⟩) n n] 166 := Blk.newAt (by simp)
      have hz9 : (((wd.alloc (.cells ((costsN n []).map iv).toArray 3)).alloc (.cells ((firstsN n []).flatMap sqc).toArray 43)).alloc (.cells #[.slice (some ⟨wd.heap.size, 0, none⟩) (n + 1) (n + 1), .slice (some ⟨(wd.heap.size + 1), 0, none⟩) n n] 166)).heap.size = wd.heap.size + 3 := by simp
      have HB9 := hid hB9
      have HC9 := hid hc9
      have HF9 := hid hf9
      have HT9 := hid ht9
      have HZ9 := hid hz9
      clear hB9 hc9 hf9 ht9 hz9
      generalize ((wd.alloc (.cells ((costsN n []).map iv).toArray 3)).alloc (.cells ((firstsN n []).flatMap sqc).toArray 43)).alloc (.cells #[.slice (some ⟨wd.heap.size, 0, none⟩) (n + 1) (n + 1), .slice (some ⟨(wd.heap.size + 1), 0, none⟩) n n] 166) = w9 at *
      have HQ4b := hid (show Blk w9 (w.heap.size + 1) [.pointer none] 160 from HQ4.out.below HB9.out HQ4.out.lt)
      have k4 := HQ4b.out.cell (k := 0) rfl
      have z4 := HQ4b.out.frozen 0
      refine wpAnyH_ready (rs := [10]) (by kernel_rfl) (by simp) ?_
      refine AllReadyH.cons (by simp only [List.getElem?_toArray, List.getElem?_cons_zero, List.getElem?_cons_succ]; rfl) (fun K hK => ?_) AllReadyH.nil
      rw [if_pos (by rfl)]
      go_simp
      refine hK.out _ _ ?_ (fun _ => ?_)
      · exact (HQ6.out.below HB9.out HQ6.out.lt).other (a := ⟨w.heap.size + 1, 0, none⟩) _ (by dsimp only; omega)
      clear hK K k4 z4
      refine wpAnyH_done (by kernel_rfl) ?_ _
      refine NoPanic.normal ?_
      go_wp2
      go_meet
      have h3 := HZ5.out
      have h6 := HZq.out
      have h7 := HSd.out
      have hst : ∀ (b : Nat) (vs : List Value) (e : TypeId), Blk w9 b vs e → w.heap.size + 1 ≠ b → Blk (w9.setCell ⟨w.heap.size + 1, 0, none⟩ (.pointer (some ⟨wd.heap.size + 2, 0, none⟩))) b vs e := fun b vs e hb hne => hb.other (a := ⟨w.heap.size + 1, 0, none⟩) _ (by dsimp only; exact hne)
      refine ⟨wd.heap.size + 2, _, _, ⟨(HBq.out.trans (HB9.out.mono HBq.out.size)).setCell (p := ⟨w.heap.size + 1, 0, none⟩) (Nat.le_succ _) _, by omega, by omega, by omega, by omega, by omega, by omega, fun x hx => ?_, hst _ _ _ (HQ3.out.below HB9.out HQ3.out.lt) (by omega), HQ4b.out.set 0 _, hst _ _ _ (HQ6.out.below HB9.out HQ6.out.lt) (by omega), ?_, hst _ _ _ HT9.out (by omega), hst _ _ _ HC9.out (by omega), hst _ _ _ HF9.out (by omega)⟩⟩
      · have := HDl.out x hx
        omega
      · intro j u hu
        obtain ⟨b, o, e, h1, h2⟩ := HDq.out j u hu
        have h8 := HDc.out.2 _ e
        dsimp only at h8
        refine ⟨b, o, e, by have := HB9.out.size; simp; omega, (World.cell?_of_block (Below.heap_setCell _ ⟨w.heap.size + 1, 0, none⟩ _ b (by dsimp only; omega))).trans ?_⟩
        exact (HB9.out.cell (p := ⟨b, o + j, none⟩) h1).trans h2
    · rw [if_pos (by rfl)]
      go_simp
      refine hK.out _ _ ?_ (fun _ => ?_)
      · exact HQd.out.alloc _
      clear hK K
      refine wpAnyH_ready (rs := [3]) (by kernel_rfl) (by simp) ?_
      refine AllReadyH.cons (by simp only [List.getElem?_toArray, List.getElem?_cons_zero, List.getElem?_cons_succ]; rfl) (fun K hK => ?_) AllReadyH.nil
      rw [if_pos (by rfl)]
      go_simp
      refine hK.out _ _ ?_ (fun _ => ?_)
      · exact (HQd.out.alloc _).alloc _
      clear hK K
      refine wpAnyH_take (i := 7) (v := .agg #[.slice (some ⟨(wd.heap.size + 1), 0, none⟩) (n + 1) (n + 1), .slice (some ⟨wd.heap.size, 0, none⟩) n n]) (by simp only [List.getElem?_toArray, List.getElem?_cons_zero, List.getElem?_cons_succ]; rfl) (by kernel_rfl) (by kernel_rfl) (by kernel_rfl) (fun _ _ _ h => h) (Or.inl ⟨by rfl, fun W hSw => ?_⟩) (by assumption) ?_
      · clear hSw
        go_simp
      simp only [Act.put, List.setIfInBounds_toArray, List.set_cons_zero, List.set_cons_succ]
      refine wpAnyH_take (i := 8) (v := .agg #[.slice (some ⟨(wd.heap.size + 1), 0, none⟩) (n + 1) (n + 1), .slice (some ⟨wd.heap.size, 0, none⟩) n n]) (by simp only [List.getElem?_toArray, List.getElem?_cons_zero, List.getElem?_cons_succ]; rfl) (by kernel_rfl) (by kernel_rfl) (by kernel_rfl) (fun _ _ _ h => h) (Or.inl ⟨by rfl, fun W hSw => ?_⟩) (by assumption) ?_
      · clear hSw
        go_simp
      simp only [Act.put, List.setIfInBounds_toArray, List.set_cons_zero, List.set_cons_succ]
      refine wpAnyH_ready (rs := [9]) (by kernel_rfl) (by simp) ?_
      refine AllReadyH.cons (by simp only [List.getElem?_toArray, List.getElem?_cons_zero, List.getElem?_cons_succ]; rfl) (fun K hK => ?_) AllReadyH.nil
      rw [if_pos (by rfl)]
      go_simp
      refine hK.out _ _ ?_ (fun _ => ?_)
      · exact ((HQd.out.alloc _).alloc _).alloc _
      clear hK K
      have hB9 : Below w6.heap.size w6 (((wd.alloc (.cells ((firstsN n []).flatMap sqc).toArray 43)).alloc (.cells ((costsN n []).map iv).toArray 3)).alloc (.cells #[.slice (some ⟨(wd.heap.size + 1), 0, none⟩) (n + 1) (n + 1), .slice (some ⟨wd.heap.size, 0, none⟩) n n] 166)) := ((HBd.out.alloc HBd.out.size _).alloc (by have := HBd.out.size; simp; omega) _).alloc (by have := HBd.out.size; simp; omega) _
      have hc9 : Blk (((wd.alloc (.cells ((firstsN n []).flatMap sqc).toArray 43)).alloc (.cells ((costsN n []).map iv).toArray 3)).alloc (.cells #[.slice (some ⟨(wd.heap.size + 1), 0, none⟩) (n + 1) (n + 1), .slice (some ⟨wd.heap.size, 0, none⟩) n n] 166)) (wd.heap.size + 1) ((costsN n []).map iv) 3 := (Blk.newAt (by simp)).alloc _
      have hf9 : Blk (((wd.alloc (.cells ((firstsN n []).flatMap sqc).toArray 43)).alloc (.cells ((costsN n []).map iv).toArray 3)).alloc (.cells #[.slice (some ⟨(wd.heap.size + 1), 0, none⟩) (n + 1) (n + 1), .slice (some ⟨wd.heap.size, 0, none⟩) n n] 166)) wd.heap.size ((firstsN n []).flatMap sqc) 43 := ((Blk.newAt (by simp)).alloc _).alloc _
      have ht9 : Blk (((wd.alloc (.cells ((firstsN n []).flatMap sqc).toArray 43)).alloc (.cells ((costsN n []).map iv).toArray 3)).alloc (.cells #[.slice (some ⟨(wd.heap.size + 1), 0, none⟩) (n + 1) (n + 1), .slice (some ⟨wd.heap.size, 0, none⟩) n n] 166)) (wd.heap.size + 2) [.slice (some ⟨(wd.heap.size + 1), 0, none⟩) (n + 1) (n + 1), .slice (some ⟨wd.heap.size, 0, none⟩) n n] 166 := Blk.newAt (by simp)
      have hz9 : (((wd.alloc (.cells ((firstsN n []).flatMap sqc).toArray 43)).alloc (.cells ((costsN n []).map iv).toArray 3)).alloc (.cells #[.slice (some ⟨(wd.heap.size + 1), 0, none⟩) (n + 1) (n + 1), .slice (some ⟨wd.heap.size, 0, none⟩) n n] 166)).heap.size = wd.heap.size + 3 := by simp
      have HB9 := hid hB9
      have HC9 := hid hc9
      have HF9 := hid hf9
      have HT9 := hid ht9
      have HZ9 := hid hz9
      clear hB9 hc9 hf9 ht9 hz9
      generalize ((wd.alloc (.cells ((firstsN n []).flatMap sqc).toArray 43)).alloc (.cells ((costsN n []).map iv).toArray 3)).alloc (.cells #[.slice (some ⟨(wd.heap.size + 1), 0, none⟩) (n + 1) (n + 1), .slice (some ⟨wd.heap.size, 0, none⟩) n n] 166) = w9 at *
      have HQ4b := hid (show Blk w9 (w.heap.size + 1) [.pointer none] 160 from HQ4.out.below HB9.out HQ4.out.lt)
      have k4 := HQ4b.out.cell (k := 0) rfl
      have z4 := HQ4b.out.frozen 0
      refine wpAnyH_ready (rs := [10]) (by kernel_rfl) (by simp) ?_
      refine AllReadyH.cons (by simp only [List.getElem?_toArray, List.getElem?_cons_zero, List.getElem?_cons_succ]; rfl) (fun K hK => ?_) AllReadyH.nil
      rw [if_pos (by rfl)]
      go_simp
      refine hK.out _ _ ?_ (fun _ => ?_)
      · exact (HQ6.out.below HB9.out HQ6.out.lt).other (a := ⟨w.heap.size + 1, 0, none⟩) _ (by dsimp only; omega)
      clear hK K k4 z4
      refine wpAnyH_done (by kernel_rfl) ?_ _
      refine NoPanic.normal ?_
      go_wp2
      go_meet
      have h3 := HZ5.out
      have h6 := HZq.out
      have h7 := HSd.out
      have hst : ∀ (b : Nat) (vs : List Value) (e : TypeId), Blk w9 b vs e → w.heap.size + 1 ≠ b → Blk (w9.setCell ⟨w.heap.size + 1, 0, none⟩ (.pointer (some ⟨wd.heap.size + 2, 0, none⟩))) b vs e := fun b vs e hb hne => hb.other (a := ⟨w.heap.size + 1, 0, none⟩) _ (by dsimp only; exact hne)
      refine ⟨wd.heap.size + 2, _, _, ⟨(HBq.out.trans (HB9.out.mono HBq.out.size)).setCell (p := ⟨w.heap.size + 1, 0, none⟩) (Nat.le_succ _) _, by omega, by omega, by omega, by omega, by omega, by omega, fun x hx => ?_, hst _ _ _ (HQ3.out.below HB9.out HQ3.out.lt) (by omega), HQ4b.out.set 0 _, hst _ _ _ (HQ6.out.below HB9.out HQ6.out.lt) (by omega), ?_, hst _ _ _ HT9.out (by omega), hst _ _ _ HC9.out (by omega), hst _ _ _ HF9.out (by omega)⟩⟩
      · have := HDl.out x hx
        omega
      · intro j u hu
        obtain ⟨b, o, e, h1, h2⟩ := HDq.out j u hu
        have h8 := HDc.out.2 _ e
        dsimp only at h8
        refine ⟨b, o, e, by have := HB9.out.size; simp; omega, (World.cell?_of_block (Below.heap_setCell _ ⟨w.heap.size + 1, 0, none⟩ _ b (by dsimp only; omega))).trans ?_⟩
        exact (HB9.out.cell (p := ⟨b, o + j, none⟩) h1).trans h2
  case rest =>
    obtain ⟨T, gc, gf, h5⟩ := hcut
    have H5 := hid h5
    clear h5 HQ3 HQ4 HQ6 HBq HDq HZq HDc HDl HP5 HT5 HD5 HB5 HZ5 HP4 HT4 HD4 HB4
    have hnn := HN.out
    have d0 := H5.out.d.cell (k := 0) rfl
    have hwm : IntKind.i64.wrap ((n : Int) - 1) = (n : Int) - 1 := by rw [IntKind.wrap_i64]; omega
    have HI0 := hid (show TabIn w wc gc gf n (tab C data ch n 0) (wc.alloc (.cells #[.int .i64 ((n : Int) - 1)] 3)) from
      ⟨H5.out.low.alloc H5.out.low.size _, by simp, fun k h1 _ _ => Below.heap_alloc _ _ _ h1, H5.out.c.alloc _, H5.out.f.alloc _⟩)
    have HQ0 := hid (show Blk (wc.alloc (.cells #[.int .i64 ((n : Int) - 1)] 3)) wc.heap.size [.int .i64 ((n : Int) - 1 - ((0 : Nat) : Int))] 3 from by
      rw [show ((n : Int) - 1 - ((0 : Nat) : Int)) = (n : Int) - 1 from by omega]
      exact Blk.new wc _ _)
    clear hnn
    go_wp2_with fail
    clear d0 hwm hw9 hmkI hmkS
    generalize wc.alloc (.cells #[.int .i64 ((n : Int) - 1)] 3) = w8 at *
    go_loopg [7] n (fun gk t wr => ∃ (r q7 : Nat), gk = n - r ∧ r ≤ n ∧ t = .pointer (some ⟨q7, 0, none⟩) ∧ Hid (wc.heap.size ≤ q7) ∧ Hid (Blk wr q7 [.int .i64 ((n : Int) - 1 - (r : Int))] 3) ∧ Hid (TabIn w wc gc gf n (tab C data ch n r) wr))
    case atStart => exact ⟨0, wc.heap.size, rfl, Nat.zero_le _, rfl, hid (Nat.le_refl _), HQ0, HI0⟩
    case round =>
      obtain ⟨r, q7, hgk, hr, rfl, HQ, HB7, HI⟩ := hrel
      have HG := hid hgk
      clear hgk
      by_cases hlt : r < n
      · obtain ⟨i, hi⟩ : ∃ i, i = n - (r + 1) := ⟨_, rfl⟩
        have hiv : ((n : Int) - 1 - (r : Int)) = (i : Int) := by omega
        rw [hiv] at HB7
        have i0 := HB7.out.cell (k := 0) rfl
        have hi0 : (0 : Int) ≤ (i : Int) := by omega
        have HIv := hid (And.intro hi hiv)
        clear hi hiv
        go_upto_block 1 with fail
        go_cut [] (fun wx => Hid (TabIn w wc gc gf n (tab C data ch n (r + 1)) wx) ∧ Hid (Blk wx q7 [.int .i64 (i : Int)] 3))
        case first =>
          have hi := HIv.out.1
          have hcl := HLn.out (i : Int)
          have hTab : TabAt wr M C w.heap.size (w.heap.size + 1 + 1) q7 (w.heap.size + 1) T gc gf av cv data i (costsN n (tab C data ch n r)) := by
            have h3 := H5.out.hT
            have h4 := H5.out.hc
            have h5 := H5.out.hf
            have hnn := HN.out
            subst hnn
            exact ⟨HPr.out _ HI.out.low, HI.out.blk H5.out.p (by omega) (by omega), HI.out.blk H5.out.d (by omega) (by omega), HI.out.cs H5.out.dc H5.out.nd, HB7.out, HI.out.blk H5.out.tp (by omega) (by omega), HI.out.blk H5.out.row H5.out.nTc H5.out.nTf, HI.out.c⟩
          have HT := hid hTab
          have hrow : Blk wr T [.slice (some ⟨gc, 0, none⟩) (n + 1) (n + 1), .slice (some ⟨gf, 0, none⟩) n n] 166 := HI.out.blk H5.out.row H5.out.nTc H5.out.nTf
          have HSk := hid (fun W (hb : Below wr.heap.size wr W) => show Blk W (w.heap.size + 1) [.pointer (some ⟨T, 0, none⟩)] 160 ∧ Blk W T [.slice (some ⟨gc, 0, none⟩) (n + 1) (n + 1), .slice (some ⟨gf, 0, none⟩) n n] 166 ∧ Blk W q7 [.int .i64 (i : Int)] 3 from ⟨hTab.t.below hb hTab.t.lt, hrow.below hb hrow.lt, hTab.i.below hb hTab.i.lt⟩)
          have HSt3 := hid (HSt2.out (i : Int))
          have hiI : (i : Int) < (n : Int) := by omega
          have hiI1 : (i : Int) < (n : Int) + 1 := by omega
          have hin : i < n := by omega
          have hmf : ∀ (fn : Fn) (first cap : Array Value) (w : World), (Instr.makeFunc fn first cap).run Tryz.prog w = .ok (.func fn first cap) w := fun _ _ _ _ => rfl
          obtain ⟨⟨⟨xl, xn, xo⟩, xv⟩, hbest⟩ : ∃ m, leastP (ofS C data i (tab C data ch n r)) ⟨0, 0, 0⟩ (ch (i : Int)) = m := ⟨_, rfl⟩
          have HLe := hid (fun W (hb : Below wr.heap.size wr W) a3 c3 (hl3 : (ch (i : Int)).length + 1 ≤ c3) (hc3 : CellsAt W a3 (((⟨0, 0, 0⟩ : Sq) :: ch (i : Int)).flatMap sqc)) =>
            show Calls Tryz.prog 109 #[.func (.func 110) #[] #[.pointer (some ⟨w.heap.size, 0, none⟩), .pointer (some ⟨w.heap.size + 1 + 1, 0, none⟩), .pointer (some ⟨q7, 0, none⟩), .pointer (some ⟨w.heap.size + 1, 0, none⟩)], .slice a3 ((ch (i : Int)).length + 1) c3] W (RetV W (.tuple #[.agg #[.int .i64 xl, .int .i64 xn, .int .i64 xo], .int .i64 xv])) from by
              have h := bleast_any W w.heap.size (w.heap.size + 1 + 1) q7 (w.heap.size + 1) (ofS C data i (tab C data ch n r)) a3 c3 ⟨0, 0, 0⟩ (ch (i : Int)) hl3 (by omega) hc3 (fun W' hW' s hs => by
                have hnn := HN.out
                subst hnn
                exact bof_ok W' M C _ _ _ _ T gc gf av cv data i r ch (hTab.low (hb.trans (hW'.mono hb.size))) HCh.out (by omega) hi hnd s (by simpa using hs))
              rw [hbest] at h
              exact h)
          have htl := tab_length C data ch n r
          have HSto := hid (fun W (hb : Below wr.heap.size wr W) => show TabIn w wc gc gf n (tab C data ch n (r + 1)) ((((W.setCell ⟨gf, i * 3, none⟩ (.int .i64 xl)).setCell ⟨gf, i * 3 + 1, none⟩ (.int .i64 xn)).setCell ⟨gf, i * 3 + 2, none⟩ (.int .i64 xo)).setCell ⟨gc, i, none⟩ (.int .i64 xv)) from by
            have h := (HI.out.on hb).store (by have := H5.out.hc; omega) (by have := H5.out.hf; omega) H5.out.ncf ⟨xl, xn, xo⟩ xv (by rw [htl]; omega)
            rw [htl, ← hi, ← hbest] at h
            have e : leastP (ofS C data i (tab C data ch n r)) ⟨0, 0, 0⟩ (ch (i : Int)) :: tab C data ch n r = tab C data ch n (r + 1) := by rw [hi]; rfl
            rw [hbest] at h e
            rw [e] at h
            exact h)
          have HFc := hid (fun W (hb : Below wr.heap.size wr W) => show (∃ u0 u1 u2, W.cell? ⟨gf, i * 3, none⟩ = some u0 ∧ W.cell? ⟨gf, i * 3 + 1, none⟩ = some u1 ∧ W.cell? ⟨gf, i * 3 + 2, none⟩ = some u2) ∧ (∃ u, W.cell? ⟨gc, i, none⟩ = some u) ∧ (∀ k, W.frozen? ⟨gf, k, none⟩ = false) ∧ (∀ k, W.frozen? ⟨gc, k, none⟩ = false) from by
            have hB := HI.out.on hb
            have hlen : ((firstsN n (tab C data ch n r)).flatMap sqc).length = n * 3 := by rw [sqc_length, firstsN_length (by omega)]
            have hlc : ((costsN n (tab C data ch n r)).map iv).length = n + 1 := by rw [List.length_map, costsN_length (by omega)]
            exact ⟨⟨_, _, _, hB.f.cell (List.getElem?_eq_getElem (by omega)), hB.f.cell (List.getElem?_eq_getElem (by omega)), hB.f.cell (List.getElem?_eq_getElem (by omega))⟩, ⟨_, hB.c.cell (List.getElem?_eq_getElem (by omega))⟩, hB.f.frozen, hB.c.frozen⟩)
          have HLow := hid HI.out.low
          have HQd := hid (fun W (hb : Below wr.heap.size wr W) => show Blk W q7 [.int .i64 (i : Int)] 3 ∧ q7 ≠ gc ∧ q7 ≠ gf from ⟨hTab.i.below hb hTab.i.lt, by have := HQ.out; have := H5.out.c.lt; omega, by have := HQ.out; have := H5.out.f.lt; omega⟩)
          clear hTab hrow hbest htl i0 hi0 hi
          go_upto_region 9 with fail
          refine wp_region_noPanic ?_
          refine wp_region_held_drew (S := (fun W' => Blk W' (w.heap.size + 1) [.pointer (some ⟨T, 0, none⟩)] 160 ∧ Blk W' T [.slice (some ⟨gc, 0, none⟩) (n + 1) (n + 1), .slice (some ⟨gf, 0, none⟩) n n] 166 ∧ Blk W' q7 [.int .i64 (i : Int)] 3)) (by kernel_rfl) (HSk.out wr.drew (Below.refl _ _).drew) (fun hHeld => ?_)
          have HBd := hid (show Below wr.heap.size wr wr.drew from (Below.refl _ _).drew)
          have HLd := hid HLow.out.drew
          have HSd := hid (show wr.drew.heap.size = wr.heap.size from rfl)
          generalize wr.drew = wd at *
          refine wpAnyH_take (i := 0) (v := .pointer (some ⟨T, 0, none⟩)) (by simp only [List.getElem?_toArray, List.getElem?_cons_zero]; rfl) (by kernel_rfl) (by kernel_rfl) (by kernel_rfl) (fun _ _ _ h => h) (Or.inl ⟨by rfl, fun W hSw => ?_⟩) (by assumption) ?_
          · have cc := hSw.1.cell (k := 0) rfl
            clear hSw
            go_simp
          simp only [Act.put, List.setIfInBounds_toArray, List.set_cons_zero, List.set_cons_succ]
          refine wpAnyH_take (i := 1) (v := .pointer (some ⟨T, 0, none⟩)) (by simp only [List.getElem?_toArray, List.getElem?_cons_zero, List.getElem?_cons_succ]; rfl) (by kernel_rfl) (by kernel_rfl) (by kernel_rfl) (fun _ _ _ h => h) (Or.inl ⟨by rfl, fun W hSw => ?_⟩) (by assumption) ?_
          · have cc := hSw.2.1.lt
            clear hSw
            go_simp
          simp only [Act.put, List.setIfInBounds_toArray, List.set_cons_zero, List.set_cons_succ]
          refine wpAnyH_take (i := 2) (v := .pointer (some ⟨T, 0, none⟩)) (by simp only [List.getElem?_toArray, List.getElem?_cons_zero, List.getElem?_cons_succ]; rfl) (by kernel_rfl) (by kernel_rfl) (by kernel_rfl) (fun _ _ _ h => h) (Or.inl ⟨by rfl, fun W hSw => ?_⟩) (by assumption) ?_
          · clear hSw
            go_simp
          simp only [Act.put, List.setIfInBounds_toArray, List.set_cons_zero, List.set_cons_succ]
          refine wpAnyH_take (i := 3) (v := .pointer (some ⟨T, 1, none⟩)) (by simp only [List.getElem?_toArray, List.getElem?_cons_zero, List.getElem?_cons_succ]; rfl) (by kernel_rfl) (by kernel_rfl) (by kernel_rfl) (fun _ _ _ h => h) (Or.inl ⟨by rfl, fun W hSw => ?_⟩) (by assumption) ?_
          · clear hSw
            go_simp
          simp only [Act.put, List.setIfInBounds_toArray, List.set_cons_zero, List.set_cons_succ]
          refine wpAnyH_take (i := 4) (v := .slice (some ⟨gf, 0, none⟩) n n) (by simp only [List.getElem?_toArray, List.getElem?_cons_zero, List.getElem?_cons_succ]; rfl) (by kernel_rfl) (by kernel_rfl) (by kernel_rfl) (fun _ _ _ h => h) (Or.inl ⟨by rfl, fun W hSw => ?_⟩) (by assumption) ?_
          · have cc := hSw.2.1.cell (k := 1) rfl
            clear hSw
            go_simp
          simp only [Act.put, List.setIfInBounds_toArray, List.set_cons_zero, List.set_cons_succ]
          refine wpAnyH_take (i := 5) (v := .int .i64 (i : Int)) (by simp only [List.getElem?_toArray, List.getElem?_cons_zero, List.getElem?_cons_succ]; rfl) (by kernel_rfl) (by kernel_rfl) (by kernel_rfl) (fun _ _ _ h => h) (Or.inl ⟨by rfl, fun W hSw => ?_⟩) (by assumption) ?_
          · have cc := hSw.2.2.cell (k := 0) rfl
            clear hSw
            go_simp
          simp only [Act.put, List.setIfInBounds_toArray, List.set_cons_zero, List.set_cons_succ]
          refine wpAnyH_take (i := 6) (v := .pointer (some ⟨T, 0, none⟩)) (by simp only [List.getElem?_toArray, List.getElem?_cons_zero, List.getElem?_cons_succ]; rfl) (by kernel_rfl) (by kernel_rfl) (by kernel_rfl) (fun _ _ _ h => h) (Or.inl ⟨by rfl, fun W hSw => ?_⟩) (by assumption) ?_
          · have cc := hSw.1.cell (k := 0) rfl
            clear hSw
            go_simp
          simp only [Act.put, List.setIfInBounds_toArray, List.set_cons_zero, List.set_cons_succ]
          refine wpAnyH_take (i := 7) (v := .pointer (some ⟨T, 0, none⟩)) (by simp only [List.getElem?_toArray, List.getElem?_cons_zero, List.getElem?_cons_succ]; rfl) (by kernel_rfl) (by kernel_rfl) (by kernel_rfl) (fun _ _ _ h => h) (Or.inl ⟨by rfl, fun W hSw => ?_⟩) (by assumption) ?_
          · have cc := hSw.2.1.lt
            clear hSw
            go_simp
          simp only [Act.put, List.setIfInBounds_toArray, List.set_cons_zero, List.set_cons_succ]
          refine wpAnyH_take (i := 8) (v := .pointer (some ⟨T, 0, none⟩)) (by simp only [List.getElem?_toArray, List.getElem?_cons_zero, List.getElem?_cons_succ]; rfl) (by kernel_rfl) (by kernel_rfl) (by kernel_rfl) (fun _ _ _ h => h) (Or.inl ⟨by rfl, fun W hSw => ?_⟩) (by assumption) ?_
          · clear hSw
            go_simp
          simp only [Act.put, List.setIfInBounds_toArray, List.set_cons_zero, List.set_cons_succ]
          refine wpAnyH_take (i := 9) (v := .pointer (some ⟨T, 0, none⟩)) (by simp only [List.getElem?_toArray, List.getElem?_cons_zero, List.getElem?_cons_succ]; rfl) (by kernel_rfl) (by kernel_rfl) (by kernel_rfl) (fun _ _ _ h => h) (Or.inl ⟨by rfl, fun W hSw => ?_⟩) (by assumption) ?_
          · clear hSw
            go_simp
          simp only [Act.put, List.setIfInBounds_toArray, List.set_cons_zero, List.set_cons_succ]
          refine wpAnyH_take (i := 10) (v := .slice (some ⟨gc, 0, none⟩) (n + 1) (n + 1)) (by simp only [List.getElem?_toArray, List.getElem?_cons_zero, List.getElem?_cons_succ]; rfl) (by kernel_rfl) (by kernel_rfl) (by kernel_rfl) (fun _ _ _ h => h) (Or.inl ⟨by rfl, fun W hSw => ?_⟩) (by assumption) ?_
          · have cc := hSw.2.1.cell (k := 0) rfl
            clear hSw
            go_simp
          simp only [Act.put, List.setIfInBounds_toArray, List.set_cons_zero, List.set_cons_succ]
          refine wpAnyH_take (i := 11) (v := .int .i64 (i : Int)) (by simp only [List.getElem?_toArray, List.getElem?_cons_zero, List.getElem?_cons_succ]; rfl) (by kernel_rfl) (by kernel_rfl) (by kernel_rfl) (fun _ _ _ h => h) (Or.inl ⟨by rfl, fun W hSw => ?_⟩) (by assumption) ?_
          · have cc := hSw.2.2.cell (k := 0) rfl
            clear hSw
            go_simp
          simp only [Act.put, List.setIfInBounds_toArray, List.set_cons_zero, List.set_cons_succ]
          refine wpAnyH_take (i := 12) (v := .func (.func 110) #[] #[.pointer (some ⟨w.heap.size, 0, none⟩), .pointer (some ⟨w.heap.size + 1 + 1, 0, none⟩), .pointer (some ⟨q7, 0, none⟩), .pointer (some ⟨w.heap.size + 1, 0, none⟩)]) (by simp only [List.getElem?_toArray, List.getElem?_cons_zero, List.getElem?_cons_succ]; rfl) (by kernel_rfl) (by kernel_rfl) (by kernel_rfl) (fun _ _ _ h => h) (Or.inl ⟨by rfl, fun W hSw => ?_⟩) (by assumption) ?_
          · clear hSw
            go_simp
          simp only [Act.put, List.setIfInBounds_toArray, List.set_cons_zero, List.set_cons_succ]
          refine wpAnyH_take (i := 13) (v := .agg #[.int .i64 0, .int .i64 0, .int .i64 0]) (by simp only [List.getElem?_toArray, List.getElem?_cons_zero, List.getElem?_cons_succ]; rfl) (by kernel_rfl) (by kernel_rfl) (by kernel_rfl) (fun _ _ _ h => h) (Or.inl ⟨by rfl, fun W hSw => ?_⟩) (by assumption) ?_
          · clear hSw
            go_simp
          simp only [Act.put, List.setIfInBounds_toArray, List.set_cons_zero, List.set_cons_succ]
          refine wpAnyH_take (i := 15) (v := .pointer (some ⟨F, 0, none⟩)) (by simp only [List.getElem?_toArray, List.getElem?_cons_zero, List.getElem?_cons_succ]; rfl) (by kernel_rfl) (by kernel_rfl) (by kernel_rfl) (fun _ _ _ h => h) (Or.inl ⟨by rfl, fun W hSw => ?_⟩) (by assumption) ?_
          · clear hSw
            go_simp
          simp only [Act.put, List.setIfInBounds_toArray, List.set_cons_zero, List.set_cons_succ]
          refine wpAnyH_take (i := 16) (v := .int .i64 (i : Int)) (by simp only [List.getElem?_toArray, List.getElem?_cons_zero, List.getElem?_cons_succ]; rfl) (by kernel_rfl) (by kernel_rfl) (by kernel_rfl) (fun _ _ _ h => h) (Or.inl ⟨by rfl, fun W hSw => ?_⟩) (by assumption) ?_
          · have cc := hSw.2.2.cell (k := 0) rfl
            clear hSw
            go_simp
          simp only [Act.put, List.setIfInBounds_toArray, List.set_cons_zero, List.set_cons_succ]
          refine wpAnyH_ready (rs := [14, 17]) (by kernel_rfl) (by simp) ?_
          refine AllReadyH.cons (by simp only [List.getElem?_toArray, List.getElem?_cons_zero, List.getElem?_cons_succ]; rfl) (fun K hK => ?_) (AllReadyH.cons (by simp only [List.getElem?_toArray, List.getElem?_cons_zero, List.getElem?_cons_succ]; rfl) (fun K hK => ?_) AllReadyH.nil)
          · rw [if_pos (by rfl)]
            go_simp
            refine hK.out _ _ (HSk.out _ (HBd.out.alloc HBd.out.size _)) (fun _ => ?_)
            clear hK K
            refine wpAnyH_ready (rs := [17]) (by kernel_rfl) (by simp) ?_
            refine AllReadyH.cons (by simp only [List.getElem?_toArray, List.getElem?_cons_zero, List.getElem?_cons_succ]; rfl) (fun K hK => ?_) AllReadyH.nil
            rw [if_pos (by rfl)]
            go_simp
            go_at_call 113
            refine (HSt3.out _ (HLd.out.alloc HLd.out.size _)).mono ?_
            rintro e w2 ⟨a2, rfl, hcell, hb2, hx2⟩
            dsimp only
            have HB1 := hid (show Below wr.heap.size wr (wd.alloc (.cells #[.int .i64 0, .int .i64 0, .int .i64 0] 43)) from HBd.out.alloc HBd.out.size _)
            have hg1 := (Blk.new wd [.int .i64 0, .int .i64 0, .int .i64 0] 43)
            have HB2 := hid (HB1.out.trans (hb2.mono HB1.out.size))
            have HC2 := hid hcell
            have HO2 := hid (own_lit (hg1.below hb2 hg1.lt) HBd.out.size)
            refine hK.out _ _ (HSk.out _ HB2.out) (fun _ => ?_)
            clear hK K hcell hb2 hx2 hg1
            refine wpAnyH_ready (rs := [18]) (by kernel_rfl) (by simp) ?_
            refine AllReadyH.cons (by simp only [List.getElem?_toArray, List.getElem?_cons_zero, List.getElem?_cons_succ]; rfl) (fun K hK => ?_) AllReadyH.nil
            refine step_appendsK rfl _ _ 28 rfl 43 _ 3 24 Tryz.underlying28 Tryz.info_seq rfl (by decide) wr.heap.size _ 1 (ch (i : Int)).length (ch (i : Int)).length a2 [.int .i64 0, .int .i64 0, .int .i64 0] ((ch (i : Int)).flatMap sqc) (sqc_length _) ?hu rfl rfl ?had (Nat.le_refl _) (by exact HC2.out) (by exact HO2.out) (by simp only [maxLen]; omega) (by omega) (by exact HB2.out.size) ?hk
            case hu =>
              intro u hu
              obtain ⟨s, _, hs⟩ := List.mem_flatMap.1 hu
              simp only [sqc, List.mem_cons, List.not_mem_nil, or_false] at hs
              rcases hs with rfl | rfl | rfl <;> rfl
            case had =>
              intro e
              cases hcc : ch (i : Int) with
              | nil => rfl
              | cons x y =>
                have := HC2.out 0 (.int .i64 x.lit) (by rw [hcc]; rfl)
                obtain ⟨_, _, e', _⟩ := this
                rw [e] at e'
                cases e'
            case hk =>
              intro v' w3 hown' hg
              rw [Nat.add_comm 1 (ch (i : Int)).length] at hown'
              obtain ⟨a3, c3, rfl⟩ := own_slice hown'
              have HB3 := hid (HB2.out.grown hg HB2.out.size (fun k hk => (HO2.out.lt k hk).1))
              have HC3 := hid (own_rows hown').1
              have hl3 : (ch (i : Int)).length + 1 ≤ c3 := by
                obtain ⟨_, h | ⟨_, _, h⟩⟩ := own_clip hown'
                · have := h.2.1; omega
                · exact h
              refine hK.out _ _ (HSk.out _ HB3.out) (fun _ => ?_)
              clear hK K hown' hg
              simp only [Act.put, List.setIfInBounds_toArray, List.set_cons_zero, List.set_cons_succ]
              refine wpAnyH_ready (rs := [19]) (by kernel_rfl) (by simp) ?_
              refine AllReadyH.cons (by simp only [List.getElem?_toArray, List.getElem?_cons_zero, List.getElem?_cons_succ]; rfl) (fun K hK => ?_) AllReadyH.nil
              rw [if_pos (by rfl)]
              go_simp
              go_at_call 109
              refine (HLe.out w3 HB3.out a3 c3 hl3 (by exact HC3.out)).mono ?_
              rintro e w4 ⟨rfl, hb4⟩
              dsimp only
              have HB4 := hid (HB3.out.trans (hb4.mono HB3.out.size))
              refine hK.out _ _ (HSk.out _ HB4.out) (fun _ => ?_)
              clear hK K hb4
              refine wpAnyH_take (i := 20) (v := .tuple #[.agg #[.int .i64 xl, .int .i64 xn, .int .i64 xo], .int .i64 xv]) (by simp only [List.getElem?_toArray, List.getElem?_cons_zero, List.getElem?_cons_succ]; rfl) (by kernel_rfl) (by kernel_rfl) (by kernel_rfl) (fun _ _ _ h => h) (Or.inl ⟨by rfl, fun W hSw => ?_⟩) (by assumption) ?_
              · clear hSw
                go_simp
              simp only [Act.put, List.setIfInBounds_toArray, List.set_cons_zero, List.set_cons_succ]
              refine wpAnyH_take (i := 21) (v := .agg #[.int .i64 xl, .int .i64 xn, .int .i64 xo]) (by simp only [List.getElem?_toArray, List.getElem?_cons_zero, List.getElem?_cons_succ]; rfl) (by kernel_rfl) (by kernel_rfl) (by kernel_rfl) (fun _ _ _ h => h) (Or.inl ⟨by rfl, fun W hSw => ?_⟩) (by assumption) ?_
              · clear hSw
                go_simp
              simp only [Act.put, List.setIfInBounds_toArray, List.set_cons_zero, List.set_cons_succ]
              refine wpAnyH_take (i := 22) (v := .int .i64 xv) (by simp only [List.getElem?_toArray, List.getElem?_cons_zero, List.getElem?_cons_succ]; rfl) (by kernel_rfl) (by kernel_rfl) (by kernel_rfl) (fun _ _ _ h => h) (Or.inl ⟨by rfl, fun W hSw => ?_⟩) (by assumption) ?_
              · clear hSw
                go_simp
              simp only [Act.put, List.setIfInBounds_toArray, List.set_cons_zero, List.set_cons_succ]
              refine wpAnyH_ready (rs := [23]) (by kernel_rfl) (by simp) ?_
              refine AllReadyH.cons (by simp only [List.getElem?_toArray, List.getElem?_cons_zero, List.getElem?_cons_succ]; rfl) (fun K hK => ?_) AllReadyH.nil
              rw [if_pos (by rfl)]
              go_simp
              refine hK.out _ _ (HSk.out _ HB4.out) (fun _ => ?_)
              clear hK K
              obtain ⟨⟨u0, u1, u2, y0, y1, y2⟩, ⟨u3, y3⟩, z1, z2⟩ := HFc.out w4 HB4.out
              have HNe := hid H5.out
              have HS4 := hid (show Blk (((w4.setCell ⟨gf, i * 3, none⟩ (.int .i64 xl)).setCell ⟨gf, i * 3 + 1, none⟩ (.int .i64 xn)).setCell ⟨gf, i * 3 + 2, none⟩ (.int .i64 xo)) (w.heap.size + 1) [.pointer (some ⟨T, 0, none⟩)] 160 ∧ Blk (((w4.setCell ⟨gf, i * 3, none⟩ (.int .i64 xl)).setCell ⟨gf, i * 3 + 1, none⟩ (.int .i64 xn)).setCell ⟨gf, i * 3 + 2, none⟩ (.int .i64 xo)) T [.slice (some ⟨gc, 0, none⟩) (n + 1) (n + 1), .slice (some ⟨gf, 0, none⟩) n n] 166 ∧ Blk (((w4.setCell ⟨gf, i * 3, none⟩ (.int .i64 xl)).setCell ⟨gf, i * 3 + 1, none⟩ (.int .i64 xn)).setCell ⟨gf, i * 3 + 2, none⟩ (.int .i64 xo)) q7 [.int .i64 (i : Int)] 3 from by
                obtain ⟨s1, s2, s3⟩ := HSk.out w4 HB4.out
                have n1 : gf ≠ w.heap.size + 1 := by have := HNe.out.hf; omega
                have n2 : gf ≠ T := Ne.symm HNe.out.nTf
                have n3 : gf ≠ q7 := Ne.symm (HQd.out w4 HB4.out).2.2
                exact ⟨((s1.other (a := ⟨gf, i * 3, none⟩) _ n1).other (a := ⟨gf, i * 3 + 1, none⟩) _ n1).other (a := ⟨gf, i * 3 + 2, none⟩) _ n1, ((s2.other (a := ⟨gf, i * 3, none⟩) _ n2).other (a := ⟨gf, i * 3 + 1, none⟩) _ n2).other (a := ⟨gf, i * 3 + 2, none⟩) _ n2, ((s3.other (a := ⟨gf, i * 3, none⟩) _ n3).other (a := ⟨gf, i * 3 + 1, none⟩) _ n3).other (a := ⟨gf, i * 3 + 2, none⟩) _ n3⟩)
              have HY3 := hid (show (((w4.setCell ⟨gf, i * 3, none⟩ (.int .i64 xl)).setCell ⟨gf, i * 3 + 1, none⟩ (.int .i64 xn)).setCell ⟨gf, i * 3 + 2, none⟩ (.int .i64 xo)).cell? ⟨gc, i, none⟩ = some u3 ∧ (((w4.setCell ⟨gf, i * 3, none⟩ (.int .i64 xl)).setCell ⟨gf, i * 3 + 1, none⟩ (.int .i64 xn)).setCell ⟨gf, i * 3 + 2, none⟩ (.int .i64 xo)).frozen? ⟨gc, i, none⟩ = false from by
                have n1 : gc ≠ gf := HNe.out.ncf
                have hh : (((w4.setCell ⟨gf, i * 3, none⟩ (.int .i64 xl)).setCell ⟨gf, i * 3 + 1, none⟩ (.int .i64 xn)).setCell ⟨gf, i * 3 + 2, none⟩ (.int .i64 xo)).heap[gc]? = w4.heap[gc]? := by rw [Below.heap_setCell _ _ _ _ (by dsimp only; exact n1), Below.heap_setCell _ _ _ _ (by dsimp only; exact n1), Below.heap_setCell _ _ _ _ (by dsimp only; exact n1)]
                exact ⟨(World.cell?_of_block (a := ⟨gc, i, none⟩) hh).trans y3, (World.frozen?_of_block (a := ⟨gc, i, none⟩) hh).trans (z2 i)⟩)
              have zf0 := z1 (i * 3)
              have zf1 := z1 (i * 3 + 1)
              have zf2 := z1 (i * 3 + 2)
              clear y3 z1 z2
              refine wpAnyH_ready (rs := [24]) (by kernel_rfl) (by simp) ?_
              refine AllReadyH.cons (by simp only [List.getElem?_toArray, List.getElem?_cons_zero, List.getElem?_cons_succ]; rfl) (fun K hK => ?_) AllReadyH.nil
              rw [if_pos (by rfl)]
              go_simp
              refine hK.out _ _ (by exact HS4.out) (fun _ => ?_)
              clear hK K y0 y1 y2 zf0 zf1 zf2
              have HEnd := hid (HSto.out w4 HB4.out)
              generalize ((w4.setCell ⟨gf, i * 3, none⟩ (.int .i64 xl)).setCell ⟨gf, i * 3 + 1, none⟩ (.int .i64 xn)).setCell ⟨gf, i * 3 + 2, none⟩ (.int .i64 xo) = w5 at *
              obtain ⟨y3, z3⟩ := HY3.out
              refine wpAnyH_ready (rs := [25]) (by kernel_rfl) (by simp) ?_
              refine AllReadyH.cons (by simp only [List.getElem?_toArray, List.getElem?_cons_zero, List.getElem?_cons_succ]; rfl) (fun K hK => ?_) AllReadyH.nil
              rw [if_pos (by rfl)]
              go_simp
              refine hK.out _ _ (by exact HS4.out) (fun _ => ?_)
              clear hK K
              refine wpAnyH_ready (rs := [26]) (by kernel_rfl) (by simp) ?_
              refine AllReadyH.cons (by simp only [List.getElem?_toArray, List.getElem?_cons_zero, List.getElem?_cons_succ]; rfl) (fun K hK => ?_) AllReadyH.nil
              rw [if_pos (by rfl)]
              go_simp
              refine hK.out _ _ ?_ (fun _ => ?_)
              · have n1 : gc ≠ w.heap.size + 1 := by have := HNe.out.hc; omega
                exact ⟨HS4.out.1.other (a := ⟨gc, i, none⟩) _ n1, HS4.out.2.1.other (a := ⟨gc, i, none⟩) _ (Ne.symm HNe.out.nTc), HS4.out.2.2.other (a := ⟨gc, i, none⟩) _ (Ne.symm (HQd.out w4 HB4.out).2.1)⟩
              clear hK K y3 z3
              refine wpAnyH_done (by kernel_rfl) ?_ _
              refine NoPanic.normal ?_
              go_wp2
              go_meet
              exact ⟨HEnd, hid (HS4.out.2.2.other (a := ⟨gc, i, none⟩) _ (Ne.symm (HQd.out w4 HB4.out).2.1))⟩
          · rw [if_pos (by rfl)]
            go_simp
            go_at_call 113
            refine (HSt3.out _ HLd.out).mono ?_
            rintro e w2 ⟨a2, rfl, hcell, hb2, hx2⟩
            dsimp only
            have HB1 := hid (show Below wr.heap.size wr w2 from HBd.out.trans (hb2.mono HBd.out.size))
            have HC1 := hid hcell
            refine hK.out _ _ (HSk.out _ HB1.out) (fun _ => ?_)
            clear hK K hcell hb2 hx2
            refine wpAnyH_ready (rs := [14]) (by kernel_rfl) (by simp) ?_
            refine AllReadyH.cons (by simp only [List.getElem?_toArray, List.getElem?_cons_zero, List.getElem?_cons_succ]; rfl) (fun K hK => ?_) AllReadyH.nil
            rw [if_pos (by rfl)]
            go_simp
            have HB2 := hid (HB1.out.alloc HB1.out.size (.cells #[.int .i64 0, .int .i64 0, .int .i64 0] 43))
            have HC2 := hid (HC1.out.low (below_new w2 (.cells #[.int .i64 0, .int .i64 0, .int .i64 0] 43)))
            have HO2 := hid (own_lit (Blk.new w2 [.int .i64 0, .int .i64 0, .int .i64 0] 43) HB1.out.size)
            refine hK.out _ _ (HSk.out _ HB2.out) (fun _ => ?_)
            clear hK K
            generalize w2.alloc (.cells #[.int .i64 0, .int .i64 0, .int .i64 0] 43) = w2' at *
            refine wpAnyH_ready (rs := [18]) (by kernel_rfl) (by simp) ?_
            refine AllReadyH.cons (by simp only [List.getElem?_toArray, List.getElem?_cons_zero, List.getElem?_cons_succ]; rfl) (fun K hK => ?_) AllReadyH.nil
            refine step_appendsK rfl _ _ 28 rfl 43 _ 3 24 Tryz.underlying28 Tryz.info_seq rfl (by decide) wr.heap.size _ 1 (ch (i : Int)).length (ch (i : Int)).length a2 [.int .i64 0, .int .i64 0, .int .i64 0] ((ch (i : Int)).flatMap sqc) (sqc_length _) ?hu rfl rfl ?had (Nat.le_refl _) (by exact HC2.out) (by exact HO2.out) (by simp only [maxLen]; omega) (by omega) (by exact HB2.out.size) ?hk
            case hu =>
              intro u hu
              obtain ⟨s, _, hs⟩ := List.mem_flatMap.1 hu
              simp only [sqc, List.mem_cons, List.not_mem_nil, or_false] at hs
              rcases hs with rfl | rfl | rfl <;> rfl
            case had =>
              intro e
              cases hcc : ch (i : Int) with
              | nil => rfl
              | cons x y =>
                have := HC2.out 0 (.int .i64 x.lit) (by rw [hcc]; rfl)
                obtain ⟨_, _, e', _⟩ := this
                rw [e] at e'
                cases e'
            case hk =>
              intro v' w3 hown' hg
              rw [Nat.add_comm 1 (ch (i : Int)).length] at hown'
              obtain ⟨a3, c3, rfl⟩ := own_slice hown'
              have HB3 := hid (HB2.out.grown hg HB2.out.size (fun k hk => (HO2.out.lt k hk).1))
              have HC3 := hid (own_rows hown').1
              have hl3 : (ch (i : Int)).length + 1 ≤ c3 := by
                obtain ⟨_, h | ⟨_, _, h⟩⟩ := own_clip hown'
                · have := h.2.1; omega
                · exact h
              refine hK.out _ _ (HSk.out _ HB3.out) (fun _ => ?_)
              clear hK K hown' hg
              simp only [Act.put, List.setIfInBounds_toArray, List.set_cons_zero, List.set_cons_succ]
              refine wpAnyH_ready (rs := [19]) (by kernel_rfl) (by simp) ?_
              refine AllReadyH.cons (by simp only [List.getElem?_toArray, List.getElem?_cons_zero, List.getElem?_cons_succ]; rfl) (fun K hK => ?_) AllReadyH.nil
              rw [if_pos (by rfl)]
              go_simp
              go_at_call 109
              refine (HLe.out w3 HB3.out a3 c3 hl3 (by exact HC3.out)).mono ?_
              rintro e w4 ⟨rfl, hb4⟩
              dsimp only
              have HB4 := hid (HB3.out.trans (hb4.mono HB3.out.size))
              refine hK.out _ _ (HSk.out _ HB4.out) (fun _ => ?_)
              clear hK K hb4
              refine wpAnyH_take (i := 20) (v := .tuple #[.agg #[.int .i64 xl, .int .i64 xn, .int .i64 xo], .int .i64 xv]) (by simp only [List.getElem?_toArray, List.getElem?_cons_zero, List.getElem?_cons_succ]; rfl) (by kernel_rfl) (by kernel_rfl) (by kernel_rfl) (fun _ _ _ h => h) (Or.inl ⟨by rfl, fun W hSw => ?_⟩) (by assumption) ?_
              · clear hSw
                go_simp
              simp only [Act.put, List.setIfInBounds_toArray, List.set_cons_zero, List.set_cons_succ]
              refine wpAnyH_take (i := 21) (v := .agg #[.int .i64 xl, .int .i64 xn, .int .i64 xo]) (by simp only [List.getElem?_toArray, List.getElem?_cons_zero, List.getElem?_cons_succ]; rfl) (by kernel_rfl) (by kernel_rfl) (by kernel_rfl) (fun _ _ _ h => h) (Or.inl ⟨by rfl, fun W hSw => ?_⟩) (by assumption) ?_
              · clear hSw
                go_simp
              simp only [Act.put, List.setIfInBounds_toArray, List.set_cons_zero, List.set_cons_succ]
              refine wpAnyH_take (i := 22) (v := .int .i64 xv) (by simp only [List.getElem?_toArray, List.getElem?_cons_zero, List.getElem?_cons_succ]; rfl) (by kernel_rfl) (by kernel_rfl) (by kernel_rfl) (fun _ _ _ h => h) (Or.inl ⟨by rfl, fun W hSw => ?_⟩) (by assumption) ?_
              · clear hSw
                go_simp
              simp only [Act.put, List.setIfInBounds_toArray, List.set_cons_zero, List.set_cons_succ]
              refine wpAnyH_ready (rs := [23]) (by kernel_rfl) (by simp) ?_
              refine AllReadyH.cons (by simp only [List.getElem?_toArray, List.getElem?_cons_zero, List.getElem?_cons_succ]; rfl) (fun K hK => ?_) AllReadyH.nil
              rw [if_pos (by rfl)]
              go_simp
              refine hK.out _ _ (HSk.out _ HB4.out) (fun _ => ?_)
              clear hK K
              obtain ⟨⟨u0, u1, u2, y0, y1, y2⟩, ⟨u3, y3⟩, z1, z2⟩ := HFc.out w4 HB4.out
              have HNe := hid H5.out
              have HS4 := hid (show Blk (((w4.setCell ⟨gf, i * 3, none⟩ (.int .i64 xl)).setCell ⟨gf, i * 3 + 1, none⟩ (.int .i64 xn)).setCell ⟨gf, i * 3 + 2, none⟩ (.int .i64 xo)) (w.heap.size + 1) [.pointer (some ⟨T, 0, none⟩)] 160 ∧ Blk (((w4.setCell ⟨gf, i * 3, none⟩ (.int .i64 xl)).setCell ⟨gf, i * 3 + 1, none⟩ (.int .i64 xn)).setCell ⟨gf, i * 3 + 2, none⟩ (.int .i64 xo)) T [.slice (some ⟨gc, 0, none⟩) (n + 1) (n + 1), .slice (some ⟨gf, 0, none⟩) n n] 166 ∧ Blk (((w4.setCell ⟨gf, i * 3, none⟩ (.int .i64 xl)).setCell ⟨gf, i * 3 + 1, none⟩ (.int .i64 xn)).setCell ⟨gf, i * 3 + 2, none⟩ (.int .i64 xo)) q7 [.int .i64 (i : Int)] 3 from by
                obtain ⟨s1, s2, s3⟩ := HSk.out w4 HB4.out
                have n1 : gf ≠ w.heap.size + 1 := by have := HNe.out.hf; omega
                have n2 : gf ≠ T := Ne.symm HNe.out.nTf
                have n3 : gf ≠ q7 := Ne.symm (HQd.out w4 HB4.out).2.2
                exact ⟨((s1.other (a := ⟨gf, i * 3, none⟩) _ n1).other (a := ⟨gf, i * 3 + 1, none⟩) _ n1).other (a := ⟨gf, i * 3 + 2, none⟩) _ n1, ((s2.other (a := ⟨gf, i * 3, none⟩) _ n2).other (a := ⟨gf, i * 3 + 1, none⟩) _ n2).other (a := ⟨gf, i * 3 + 2, none⟩) _ n2, ((s3.other (a := ⟨gf, i * 3, none⟩) _ n3).other (a := ⟨gf, i * 3 + 1, none⟩) _ n3).other (a := ⟨gf, i * 3 + 2, none⟩) _ n3⟩)
              have HY3 := hid (show (((w4.setCell ⟨gf, i * 3, none⟩ (.int .i64 xl)).setCell ⟨gf, i * 3 + 1, none⟩ (.int .i64 xn)).setCell ⟨gf, i * 3 + 2, none⟩ (.int .i64 xo)).cell? ⟨gc, i, none⟩ = some u3 ∧ (((w4.setCell ⟨gf, i * 3, none⟩ (.int .i64 xl)).setCell ⟨gf, i * 3 + 1, none⟩ (.int .i64 xn)).setCell ⟨gf, i * 3 + 2, none⟩ (.int .i64 xo)).frozen? ⟨gc, i, none⟩ = false from by
                have n1 : gc ≠ gf := HNe.out.ncf
                have hh : (((w4.setCell ⟨gf, i * 3, none⟩ (.int .i64 xl)).setCell ⟨gf, i * 3 + 1, none⟩ (.int .i64 xn)).setCell ⟨gf, i * 3 + 2, none⟩ (.int .i64 xo)).heap[gc]? = w4.heap[gc]? := by rw [Below.heap_setCell _ _ _ _ (by dsimp only; exact n1), Below.heap_setCell _ _ _ _ (by dsimp only; exact n1), Below.heap_setCell _ _ _ _ (by dsimp only; exact n1)]
                exact ⟨(World.cell?_of_block (a := ⟨gc, i, none⟩) hh).trans y3, (World.frozen?_of_block (a := ⟨gc, i, none⟩) hh).trans (z2 i)⟩)
              have zf0 := z1 (i * 3)
              have zf1 := z1 (i * 3 + 1)
              have zf2 := z1 (i * 3 + 2)
              clear y3 z1 z2
              refine wpAnyH_ready (rs := [24]) (by kernel_rfl) (by simp) ?_
              refine AllReadyH.cons (by simp only [List.getElem?_toArray, List.getElem?_cons_zero, List.getElem?_cons_succ]; rfl) (fun K hK => ?_) AllReadyH.nil
              rw [if_pos (by rfl)]
              go_simp
              refine hK.out _ _ (by exact HS4.out) (fun _ => ?_)
              clear hK K y0 y1 y2 zf0 zf1 zf2
              have HEnd := hid (HSto.out w4 HB4.out)
              generalize ((w4.setCell ⟨gf, i * 3, none⟩ (.int .i64 xl)).setCell ⟨gf, i * 3 + 1, none⟩ (.int .i64 xn)).setCell ⟨gf, i * 3 + 2, none⟩ (.int .i64 xo) = w5 at *
              obtain ⟨y3, z3⟩ := HY3.out
              refine wpAnyH_ready (rs := [25]) (by kernel_rfl) (by simp) ?_
              refine AllReadyH.cons (by simp only [List.getElem?_toArray, List.getElem?_cons_zero, List.getElem?_cons_succ]; rfl) (fun K hK => ?_) AllReadyH.nil
              rw [if_pos (by rfl)]
              go_simp
              refine hK.out _ _ (by exact HS4.out) (fun _ => ?_)
              clear hK K
              refine wpAnyH_ready (rs := [26]) (by kernel_rfl) (by simp) ?_
              refine AllReadyH.cons (by simp only [List.getElem?_toArray, List.getElem?_cons_zero, List.getElem?_cons_succ]; rfl) (fun K hK => ?_) AllReadyH.nil
              rw [if_pos (by rfl)]
              go_simp
              refine hK.out _ _ ?_ (fun _ => ?_)
              · have n1 : gc ≠ w.heap.size + 1 := by have := HNe.out.hc; omega
                exact ⟨HS4.out.1.other (a := ⟨gc, i, none⟩) _ n1, HS4.out.2.1.other (a := ⟨gc, i, none⟩) _ (Ne.symm HNe.out.nTc), HS4.out.2.2.other (a := ⟨gc, i, none⟩) _ (Ne.symm (HQd.out w4 HB4.out).2.1)⟩
              clear hK K y3 z3
              refine wpAnyH_done (by kernel_rfl) ?_ _
              refine NoPanic.normal ?_
              go_wp2
              go_meet
              exact ⟨HEnd, hid (HS4.out.2.2.other (a := ⟨gc, i, none⟩) _ (Ne.symm (HQd.out w4 HB4.out).2.1))⟩
        case rest =>
          obtain ⟨hTn, hQn⟩ := hcut
          have q0 := hQn.out.cell (k := 0) rfl
          have HTw := hid (hTn.out.on (below_new wc (.cells #[.int .i64 ((i : Int) - 1)] 3)))
          have HNq := hid (Blk.new wc [.int .i64 ((i : Int) - 1)] 3)
          have hwi : IntKind.i64.wrap ((i : Int) - 1) = (i : Int) - 1 := by rw [IntKind.wrap_i64]; have := HIv.out.1; omega
          have HSz := hid hTn.out.sz
          clear hTn hQn i0 hi0
          go_wp2_with fail
          go_roundg (n - (r + 1))
          case measure =>
            have := HG.out
            omega
          case rel =>
            refine ⟨r + 1, wc.heap.size, rfl, hlt, rfl, HSz, hid ?_, HTw⟩
            rw [show (n : Int) - 1 - ((r + 1 : Nat) : Int) = (i : Int) - 1 from by have := HIv.out.2; omega]
            exact HNq.out
      · obtain rfl : r = n := by omega
        have i0 := HB7.out.cell (k := 0) rfl
        have hr1 : (r : Int) - 1 - (r : Int) = -1 := by omega
        rw [hr1] at i0
        have t4 := (HI.out.blk H5.out.tp (by have := H5.out.hc; omega) (by have := H5.out.hf; omega)).cell (k := 0) rfl
        have t5 := (HI.out.blk H5.out.tp (by have := H5.out.hc; omega) (by have := H5.out.hf; omega)).frozen 0
        have HTr := hid (HI.out.blk H5.out.row H5.out.nTc H5.out.nTf)
        have HTk := hid (HI.out.blk H5.out.tp (by have := H5.out.hc; omega) (by have := H5.out.hf; omega))
        clear hr1
        go_wp2_with fail
        simp only [Exit.noGoto_ret]
        have hz := fun (b : Nat) (vs : List Value) (e : TypeId) (h : Blk wr b vs e) (hne : w.heap.size + 1 ≠ b) => h.other (a := ⟨w.heap.size + 1, 0, none⟩) (.pointer (some ⟨T, 0, none⟩)) (by dsimp only; exact hne)
        have h1 := H5.out.hT
        have h2 := H5.out.hc
        have h3 := H5.out.hf
        have hl := tab_length C data ch r r
        have hcc := HI.out.c
        have hff := HI.out.f
        rw [costsN_all hl] at hcc
        rw [firstsN_all hl] at hff
        have p0 := (HTk.out.set 0 (.pointer (some ⟨T, 0, none⟩))).cell (k := 0) rfl
        refine bodyPost_ret (v := .tuple #[.pointer (some ⟨T, 0, none⟩), .int .i64 0]) (by simp [results, Tryz.results84, go_sem, p0]) rfl ?_
        exact ⟨T, gc, gf, rfl, HI.out.low.setCell (p := ⟨w.heap.size + 1, 0, none⟩) (Nat.le_succ _) _, by omega, by omega, by omega, hz _ _ _ HTr.out (by omega), hz _ _ _ hcc (by omega), hz _ _ _ hff (by omega)⟩
end Go.Proofs.YtlgablepckmogaaGreat
