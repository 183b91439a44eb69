/-
  The walks of layer 32 (price), third part: the costs of a histogram.
-/
import Derived.Test.YtlgablepckmogaaGreatQ15
import Derived.Deep.RegionHeld3
import Derived.Outline
namespace Go.Port
open Go.RowKit
/-- The cells behind an address (as CellsAt of layer 27, for seats without it). -/
def Cs (w : World) (a : Option Addr) (cs : List Value) : Prop := ∀ j u, cs[j]? = some u → ∃ bl off, a = some ⟨bl, off, none⟩ ∧ bl < w.heap.size ∧ w.cell? ⟨bl, off + j, none⟩ = some u
theorem Cs.low {w w' : World} {a : Option Addr} {cs : List Value} (h : Cs w a cs) (hb : Below w.heap.size w w') : Cs w' a cs := at_same h hb
/-- What row has written behind k rounds. -/
def rowMix (k : Nat) (l : List Int) (j : Nat) : List Value := (List.range (symN k)).map fun s => iv (if s < j then pcost k l s else l.getD s 0)
theorem rowMix_length (k : Nat) (l : List Int) (j : Nat) : (rowMix k l j).length = symN k := by simp [rowMix]
theorem rowMix_at {k : Nat} {l : List Int} {j s : Nat} (h : s < symN k) : (rowMix k l j)[s]? = some (iv (if s < j then pcost k l s else l.getD s 0)) := by
  unfold rowMix
  rw [List.getElem?_map, List.getElem?_range h]
  rfl
theorem rowMix_zero {k : Nat} {l : List Int} (h : l.length ≤ symN k) : l.map iv ++ List.replicate (symN k - l.length) (.int .i64 0) = rowMix k l 0 := by
  apply List.ext_getElem?
  intro s
  by_cases hs : s < symN k
  · rw [rowMix_at hs, if_neg (by omega)]
    by_cases h2 : s < l.length
    · rw [List.getElem?_append_left (by simpa using h2), List.getElem?_map, List.getElem?_eq_getElem h2, List.getD_eq_getElem?_getD, List.getElem?_eq_getElem h2]
      rfl
    · rw [List.getElem?_append_right (by simp; omega), List.length_map, List.getElem?_replicate, if_pos (by omega), List.getD_eq_getElem?_getD, List.getElem?_eq_none (by omega)]
      rfl
  · rw [List.getElem?_eq_none (by simp; omega), List.getElem?_eq_none (by rw [rowMix_length]; omega)]
theorem rowMix_all (k : Nat) (l : List Int) : rowMix k l (symN k) = (pcosts k l).map iv := by
  unfold rowMix pcosts
  rw [List.map_map]
  refine List.map_congr_left fun s hs => ?_
  rw [if_pos (List.mem_range.1 hs)]
  rfl
theorem rowMix_next {k : Nat} {l : List Int} {j : Nat} : (rowMix k l j).set j (iv (pcost k l j)) = rowMix k l (j + 1) := by
  apply List.ext_getElem?
  intro s
  by_cases hs : s < symN k
  · rw [rowMix_at hs, List.getElem?_set, rowMix_length, rowMix_at hs]
    by_cases h2 : j = s
    · subst h2
      rw [if_pos rfl, if_pos hs, if_pos (by omega)]
    · rw [if_neg h2]
      congr 2
      by_cases h3 : s < j
      · rw [if_pos h3, if_pos (by omega)]
      · rw [if_neg h3, if_neg (by omega)]
  · rw [List.getElem?_eq_none (by simp [rowMix_length]; omega), List.getElem?_eq_none (by rw [rowMix_length]; omega)]
/-- A row in a block of its own, of which the first n cells are known. -/
def RowIn (w : World) (g cap n : Nat) (t : TypeId) (xs : List Value) : Prop := ∃ cs, Blk w g cs t ∧ cs.length = cap ∧ cs.take n = xs
theorem RowIn.of_own {w : World} {base n : Nat} {e : TypeId} {v : Value} {xs : List Value} (h : w.ownsRow base e 1 v n xs) (h0 : 0 < n) : ∃ g cap, v = .slice (some ⟨g, 0, none⟩) n cap ∧ base ≤ g ∧ n ≤ cap ∧ cap ≤ maxLen ∧ RowIn w g cap n e xs := by
  obtain ⟨h1, h2⟩ := h
  rcases h2 with ⟨_, h2⟩ | ⟨g, cap, cur, hv, h3, h4, h5, h6, h7, h8⟩
  · omega
  · exact ⟨g, cap, hv, h3, h5, h6, cur.toList, by unfold Blk; simpa using h4, by rw [Array.length_toList, h7, Nat.mul_one], by rw [← h8, Nat.mul_one]⟩
theorem RowIn.own {w : World} {base n g cap : Nat} {e : TypeId} {xs : List Value} (h : RowIn w g cap n e xs) (hb : base ≤ g) (hn : n ≤ cap) (hc : cap ≤ maxLen) : w.ownsRow base e 1 (.slice (some ⟨g, 0, none⟩) n cap) n xs := by
  obtain ⟨cs, h1, h2, h3⟩ := h
  refine ⟨by rw [← h3, List.length_take]; omega, .inr ⟨g, cap, cs.toArray, rfl, hb, h1, hn, hc, by simp [h2], by simpa using h3⟩⟩
theorem RowIn.below {w w' : World} {g cap n B : Nat} {t : TypeId} {xs : List Value} (h : RowIn w g cap n t xs) (hb : Below B w w') (hlt : g < B) : RowIn w' g cap n t xs := by
  obtain ⟨cs, h1, h2⟩ := h
  exact ⟨cs, h1.below hb hlt, h2⟩
theorem RowIn.lt {w : World} {g cap n : Nat} {t : TypeId} {xs : List Value} (h : RowIn w g cap n t xs) : g < w.heap.size := by
  obtain ⟨cs, h1, h2⟩ := h
  exact h1.lt
theorem RowIn.cell {w : World} {g cap n : Nat} {t : TypeId} {xs : List Value} (h : RowIn w g cap n t xs) {k : Nat} {u : Value} (hk : xs[k]? = some u) : w.cell? ⟨g, k, none⟩ = some u := by
  obtain ⟨cs, h1, h2, h3⟩ := h
  rw [← h3, List.getElem?_take] at hk
  split at hk
  · exact h1.cell hk
  · cases hk
theorem RowIn.frozen {w : World} {g cap n : Nat} {t : TypeId} {xs : List Value} (h : RowIn w g cap n t xs) (k : Nat) : w.frozen? ⟨g, k, none⟩ = false := by
  obtain ⟨cs, h1, h2, h3⟩ := h
  exact h1.frozen k
theorem RowIn.set {w : World} {g cap n : Nat} {t : TypeId} {xs : List Value} (h : RowIn w g cap n t xs) (k : Nat) (u : Value) : RowIn (w.setCell ⟨g, k, none⟩ u) g cap n t (xs.set k u) := by
  obtain ⟨cs, h1, h2, h3⟩ := h
  exact ⟨_, h1.set k u, by simpa using h2, by rw [List.take_set, h3]⟩
theorem RowIn.other {w : World} {g cap n : Nat} {t : TypeId} {xs : List Value} (h : RowIn w g cap n t xs) {a : Addr} (u : Value) (hne : a.block ≠ g) : RowIn (w.setCell a u) g cap n t xs := by
  obtain ⟨cs, h1, h2, h3⟩ := h
  exact ⟨cs, h1.other u hne, h2, h3⟩
end Go.Port
namespace Go.Proofs.YtlgablepckmogaaGreat
open Go.RowKit Go.Port
set_option maxRecDepth 100000 in
/-- slices.Clone of integers, whatever its address. -/
theorem iclone_any (a : Option Addr) (c : Nat) (l : List Int) (w : World) (hn : l.length ≤ 1000000) (hc : Cs w a (l.map iv)) (hac : a = none → l = []) :
    Calls Tryz.prog 105 #[.slice a l.length c] w fun e w' => ∃ v, e = .returned v ∧ w'.ownsRow w.heap.size 3 1 v l.length (l.map iv) ∧ Below w.heap.size w w' := by
  cases a with
  | none =>
    have := hac rfl
    subst this
    exact (Tryz.slices_Clone_int_nil 0 c w).mono fun e w' ⟨h1, h2⟩ => ⟨_, h1, World.ownsRow_nil _ _ _ _, by rw [h2]; exact Below.refl _ _⟩
  | some ad =>
    by_cases h0 : l = []
    · subst h0
      exact (Tryz.slices_Clone_int_zero ad c w).mono fun e w' ⟨v, h1, h2, h3, h4⟩ => ⟨v, h1, h2, h4⟩
    · have hp : 0 < l.length := List.length_pos_iff.2 h0
      obtain ⟨b, off, e, _, _⟩ := hc 0 (iv l[0]) (by simp [hp])
      cases e
      refine (Tryz.slices_Clone_int b off l.length c l w (Nat.le_refl _) (by omega) (fun j hj => ?_)).mono fun e w' ⟨v, h1, h2, h3, h4⟩ => ⟨v, h1, by rw [List.take_of_length_le (Nat.le_refl _)] at h2; exact h2, h4⟩
      obtain ⟨b2, o2, e, _, h2⟩ := hc j (iv l[j]) (by simp [hj])
      cases e
      rw [List.getD_eq_getElem?_getD, List.getElem?_eq_getElem hj]
      exact h2
set_option maxRecDepth 100000 in
theorem ttotal1_any (a : Option Addr) (c : Nat) (l : List Int) (w : World) (hl : l.length ≤ 256) (hcnt : ∀ x ∈ l, Cnt x) (hc : Cs w a (l.map iv)) :
    Calls Tryz.prog 135 #[.agg #[.slice a l.length c]] w (RetV w (.int .i64 l.sum)) := by
  have HT := hid (total_any a c l (w.alloc (.cells #[.slice a l.length c] 220)) hl hcnt (hc.low (below_new w _)))
  have HB := hid (below_new w (.cells #[.slice a l.length c] 220))
  clear hc hcnt
  go_enter Tryz.func135, Tryz.ntmps135
  go_wp2_with fail
  refine HT.out.mono ?_
  rintro e w' ⟨rfl, rfl⟩
  go_wp2
  go_ret
  exact ⟨rfl, HB.out⟩
set_option maxRecDepth 100000 in
theorem ttold_any (a : Option Addr) (c : Nat) (l : List Int) (w : World) (hl : l.length ≤ 256) (hcnt : ∀ x ∈ l, Cnt x) (hc : Cs w a (l.map iv)) :
    Calls Tryz.prog 134 #[.slice a l.length c, .func (.func 135) #[] #[]] w (RetV w (.tuple #[.int .i64 l.sum, .int .i64 0])) := by
  have HC := hid (tcheck_any a c l w hl hcnt hc)
  have HD := hid (ttotal1_any a c l w hl hcnt hc)
  clear hc hcnt
  go_enter Tryz.func134, Tryz.ntmps134
  go_wp2_with fail
  refine HC.out.mono ?_
  rintro e w' ⟨rfl, rfl⟩
  go_wp2_with fail
  refine HD.out.mono ?_
  rintro e w' ⟨rfl, hb⟩
  go_wp2
  go_ret2
  exact ⟨rfl, hb⟩
set_option maxRecDepth 100000 in
theorem ttotal_any (a : Option Addr) (c : Nat) (l : List Int) (w : World) (hl : l.length ≤ 256) (hcnt : ∀ x ∈ l, Cnt x) (hc : Cs w a (l.map iv)) :
    Calls Tryz.prog 106 #[.slice a l.length c] w (RetV w (.tuple #[.int .i64 l.sum, .int .i64 0])) := by
  have HC := hid (ttold_any a c l w hl hcnt hc)
  clear hc hcnt
  go_enter Tryz.func106, Tryz.ntmps106
  go_wp2_with fail
  refine HC.out.mono ?_
  rintro e w' ⟨rfl, hb⟩
  go_wp2
  go_ret2
  exact ⟨rfl, hb⟩
theorem Tryz.info_intI : (Tryz.prog.info? 3).map (fun i => (i.zero, i.size, i.bytes)) = some (some (.int .i64 0), 1, 8) := by kernel_rfl
set_option maxRecDepth 100000 in
set_option maxHeartbeats 4000000 in
theorem prrow_ok (k : Nat) (hk : k < 4) (a : Option Addr) (cp : Nat) (l : List Int) (w : World) (h : HistOk k l) (hcp : l.length ≤ cp) (hcm : cp ≤ maxLen) (hac : a = none → cp = 0) (hc : Cs w a (l.map iv)) :
    Calls Tryz.prog 83 #[.int .i64 (k : Int), .slice a l.length cp] w fun e w' => ∃ v, e = .returned v ∧ w'.ownsRow w.heap.size 3 1 v (symN k) ((pcosts k l).map iv) ∧ Below w.heap.size w w' := by
  have HH := hid h
  have hll : l.length ≤ symN k := h.1
  have hllI : (l.length : Int) ≤ (symN k : Int) := by omega
  clear h
  have hkI : (k : Int) < 4 := by omega
  have HK := hid hk
  have HA := hid hac
  have hlc : (l.length : Int) ≤ (cp : Int) := by omega
  have hlm : (l.length : Int) ≤ 9223372036854775807 := by unfold maxLen at hcm; omega
  have HC := hid hc
  have HL := hid (fun W hb => shapes_look W w.heap.size k hk hb)
  have HF := hid (fun args W => fbits_enter k args W)
  have HN := hid (show symN k ≤ 256 ∧ 28 ≤ symN k from symN_le k)
  clear hk hc hcm hcp hac
  go_enter Tryz.func83, Tryz.ntmps83
  go_wp2_with fail
  refine (prshapes_any w).mono ?_
  rintro e w1 ⟨rfl, hs1, hb1⟩
  have hlook := HL.out w1 hs1
  unfold shapeV at hlook
  have HB1 := hid hb1
  clear hb1 hs1
  have HX := hid (Blk.new w1 [.int .i64 (symN k : Nat), .func (.func (fbits k)) #[] #[]] 193)
  have HB2 := hid (HB1.out.trans ((below_new w1 (.cells #[.int .i64 (symN k : Nat), .func (.func (fbits k)) #[] #[]] 193)).mono HB1.out.size))
  have hx0 := HX.out.cell (k := 0) rfl
  go_wp2_with fail
  have h256 : l.length ≤ 256 := Nat.le_trans hll HN.out.1
  refine (tcheck_any a l.length l _ h256 HH.out.2 (HC.out.low HB2.out)).mono ?_
  rintro e w' ⟨rfl, rfl⟩
  generalize w1.alloc (.cells #[.int .i64 (symN k : Nat), .func (.func (fbits k)) #[] #[]] 193) = w2 at *
  have HM := hid (prmust_ok w2.heap.size (w2.alloc (.cells #[.int .i64 0] 25)) ((Blk.new w2 [.int .i64 0] 25).cell (k := 0) rfl))
  have HB3 := hid (HB2.out.trans ((below_new w2 (.cells #[.int .i64 0] 25)).mono HB2.out.size))
  have HX3 := hid (HX.out.alloc (.cells #[.int .i64 0] 25))
  clear hx0
  go_wp2_with fail
  refine HM.out.mono ?_
  rintro e w' ⟨rfl, rfl⟩
  have hx0 := HX3.out.cell (k := 0) rfl
  generalize w2.alloc (.cells #[.int .i64 0] 25) = w3 at *
  go_wp2_with fail
  have hsub : IntKind.i64.wrap ((symN k : Int) - (l.length : Int)) = ((symN k - l.length : Nat) : Int) := by have := HN.out; rw [IntKind.wrap_i64]; omega
  have HCl := hid (fun W hb => iclone_any a l.length l W (by omega) (HC.out.low hb) (fun e => List.eq_nil_of_length_eq_zero (by have := HA.out e; omega)))
  refine wp_region_noPanic ?_
  refine wp_region_held_drew (S := fun W' => Below w3.heap.size w3 W') (by kernel_rfl) (Below.refl _ _).drew (fun hHeld => ?_)
  refine wpAnyH_take (i := 0) (v := .slice a l.length l.length) (by simp only [List.getElem?_toArray, List.getElem?_cons_zero]; rfl) (by kernel_rfl) (by kernel_rfl) (by kernel_rfl) (fun _ _ _ h => h) (Or.inl ⟨by rfl, fun W hSw => ?_⟩) (by assumption) ?_
  · clear hSw
    go_simp
  simp only [Act.put, List.setIfInBounds_toArray, List.set_cons_zero, List.set_cons_succ]
  refine wpAnyH_take (i := 2) (v := .pointer (some ⟨w1.heap.size, 0, none⟩)) (by simp only [List.getElem?_toArray, List.getElem?_cons_zero, List.getElem?_cons_succ]; rfl) (by kernel_rfl) (by kernel_rfl) (by kernel_rfl) (fun _ _ _ h => h) (Or.inl ⟨by rfl, fun W hSw => ?_⟩) (by assumption) ?_
  · clear hSw
    go_simp
  simp only [Act.put, List.setIfInBounds_toArray, List.set_cons_zero, List.set_cons_succ]
  refine wpAnyH_take (i := 3) (v := .int .i64 (symN k : Nat)) (by simp only [List.getElem?_toArray, List.getElem?_cons_zero, List.getElem?_cons_succ]; rfl) (by kernel_rfl) (by kernel_rfl) (by kernel_rfl) (fun _ _ _ h => h) (Or.inl ⟨by rfl, fun W hSw => ?_⟩) (by assumption) ?_
  · have hcw := (hSw.cell (p := ⟨w1.heap.size, 0, none⟩) HX3.out.lt).trans (HX3.out.cell (k := 0) rfl)
    go_simp
  simp only [Act.put, List.setIfInBounds_toArray, List.set_cons_zero, List.set_cons_succ]
  refine wpAnyH_take (i := 4) (v := .slice a l.length l.length) (by simp only [List.getElem?_toArray, List.getElem?_cons_zero, List.getElem?_cons_succ]; rfl) (by kernel_rfl) (by kernel_rfl) (by kernel_rfl) (fun _ _ _ h => h) (Or.inl ⟨by rfl, fun W hSw => ?_⟩) (by assumption) ?_
  · clear hSw
    go_simp
  simp only [Act.put, List.setIfInBounds_toArray, List.set_cons_zero, List.set_cons_succ]
  refine wpAnyH_take (i := 5) (v := .int .i64 (l.length : Int)) (by simp only [List.getElem?_toArray, List.getElem?_cons_zero, List.getElem?_cons_succ]; rfl) (by kernel_rfl) (by kernel_rfl) (by kernel_rfl) (fun _ _ _ h => h) (Or.inl ⟨by rfl, fun W hSw => ?_⟩) (by assumption) ?_
  · clear hSw
    go_simp
  simp only [Act.put, List.setIfInBounds_toArray, List.set_cons_zero, List.set_cons_succ]
  refine wpAnyH_take (i := 6) (v := .int .i64 ((symN k - l.length : Nat) : Int)) (by simp only [List.getElem?_toArray, List.getElem?_cons_zero, List.getElem?_cons_succ]; rfl) (by kernel_rfl) (by kernel_rfl) (by kernel_rfl) (fun _ _ _ h => h) (Or.inl ⟨by rfl, fun W hSw => ?_⟩) (by assumption) ?_
  · clear hSw
    go_simp
  simp only [Act.put, List.setIfInBounds_toArray, List.set_cons_zero, List.set_cons_succ]
  refine wpAnyH_ready (rs := [1]) (by kernel_rfl) (by simp) ?_
  refine AllReadyH.cons (by simp only [List.getElem?_toArray, List.getElem?_cons_zero, List.getElem?_cons_succ]; rfl) (fun K hK => ?_) AllReadyH.nil
  rw [if_pos (by rfl)]
  go_simp
  go_at_call 105
  refine (HCl.out _ (HB3.out.trans ((Below.refl _ _).drew.mono HB3.out.size))).mono ?_
  rintro e w4 ⟨v, rfl, hown, hb4⟩
  have HB4 := hid ((show Below w3.heap.size w3 w3.drew from (Below.refl _ _).drew).trans hb4)
  have HO4 := hid hown
  dsimp only
  refine hK.out _ _ HB4.out (fun _ => ?_)
  clear hK K hown hb4
  obtain ⟨i0, hi0, hz0, hz1, hz2⟩ := info_parts Tryz.info_intI
  have HAp := run_append_own_zeros (P := Tryz.prog) w4 w3.heap.size 77 3 77 3 i0 .i64 .i64 .i64 Tryz.underlying77 Tryz.underlying3 hi0 hz0 hz1 (by omega) v l.length (l.map iv) HO4.out (symN k - l.length) (by have := HN.out; omega) HB4.out.size
  obtain ⟨v5, w5, hrun5, hown5, hg5⟩ := HAp
  have hB5 := HB4.out.grown hg5 HB4.out.size (fun k hk => (HO4.out.lt k hk).1)
  have he5 : l.length + (symN k - l.length) = symN k := by omega
  rw [he5, rowMix_zero hll] at hown5
  have HO5 := hid hown5
  have HB5 := hid hB5
  clear hown5 hB5 hg5 he5 hi0 hz0 hz1 hz2
  refine wpAnyH_ready (rs := [7]) (by kernel_rfl) (by simp) ?_
  refine AllReadyH.cons (by simp only [List.getElem?_toArray, List.getElem?_cons_zero, List.getElem?_cons_succ]; rfl) (fun K hK => ?_) AllReadyH.nil
  rw [if_pos (by rfl)]
  refine Lib.wp_append_run _ _ _ 77 3 rfl _ _ rfl rfl v5 w5 hrun5 ?_
  dsimp only
  refine hK.out _ _ HB5.out (fun _ => ?_)
  clear hK K hrun5
  obtain ⟨g, cap, rfl, hgb, hnc, hcm, hrow⟩ := RowIn.of_own HO5.out (by have := HN.out; omega)
  have HG := hid (And.intro hgb (And.intro hnc (And.intro hcm hrow)))
  refine wpAnyH_ready (rs := [8]) (by kernel_rfl) (by simp) ?_
  refine AllReadyH.cons (by simp only [List.getElem?_toArray, List.getElem?_cons_zero, List.getElem?_cons_succ]; rfl) (fun K hK => ?_) AllReadyH.nil
  rw [if_pos (by rfl)]
  go_simp
  refine hK.out _ _ HB5.out (fun _ => ?_)
  clear hK K
  refine wpAnyH_done (by kernel_rfl) ?_ _
  refine NoPanic.normal ?_
  have HX5 := hid (HX3.out.below HB5.out HX3.out.lt)
  have HBw := hid (HB3.out.trans (HB5.out.mono HB3.out.size))
  clear hgb hnc hcm hrow hx0 hsub HCl
  go_wp2_with fail
  refine (ttotal_any a l.length l _ h256 HH.out.2 (HC.out.low HBw.out)).mono ?_
  rintro e w6 ⟨rfl, hb6⟩
  have HM6 := hid (prmust_ok w6.heap.size (w6.alloc (.cells #[.int .i64 0] 25)) ((Blk.new w6 [.int .i64 0] 25).cell (k := 0) rfl))
  have HB7 := hid (hb6.trans ((below_new w6 (.cells #[.int .i64 0] 25)).mono hb6.size))
  clear hb6
  go_wp2_with fail
  refine HM6.out.mono ?_
  rintro e w' ⟨rfl, rfl⟩
  generalize w6.alloc (.cells #[.int .i64 0] 25) = w7 at *
  have HX7 := hid (HX5.out.below HB7.out HX5.out.lt)
  have hx0 := HX7.out.cell (k := 0) rfl
  obtain ⟨hs0, hs1⟩ := sum_hist HH.out
  have hn256 := HN.out.1
  have hn28 := HN.out.2
  have hw7 : IntKind.i64.wrap (l.sum + (symN k : Int)) = l.sum + (symN k : Int) := by rw [IntKind.wrap_i64]; omega
  have HL7 := hid (prlog_any (l.sum + (symN k : Int)) w7 (by omega) (by omega))
  have HSm := hid (And.intro hs0 hs1)
  clear hs0 hs1 hn256 hn28
  go_wp2_with fail
  refine HL7.out.mono ?_
  rintro e w8 ⟨rfl, hb8⟩
  have HB8 := hid (HB7.out.trans (hb8.mono HB7.out.size))
  have HX8 := hid (HX7.out.below hb8 HX7.out.lt)
  have HG8 := hid (HG.out.2.2.2.below HB8.out HG.out.2.2.2.lt)
  have HBw8 := hid (HBw.out.trans (HB8.out.mono HBw.out.size))
  clear hb8 hx0 hw7
  have hLb := lg_bounds (x := l.sum + (symN k : Int)) (by have := HSm.out; have := HN.out; omega) (by have := HSm.out; have := HN.out; omega)
  obtain ⟨LA, hLA⟩ : ∃ LA, LA = lg (l.sum + (symN k : Int)) := ⟨_, rfl⟩
  rw [← hLA] at hLb ⊢
  have HLA := hid hLA
  obtain ⟨hA0, hA1⟩ := hLb
  clear HL7 hlook hLA
  go_wp2_with fail
  go_loopw [56] (fun i wr => ∃ j : Nat, j ≤ symN k ∧ i = .int .i64 (j : Int) ∧ RowIn wr g cap (symN k) 3 (rowMix k l j) ∧ Blk wr w1.heap.size [.int .i64 (symN k : Nat), .func (.func (fbits k)) #[] #[]] 193 ∧ Below w.heap.size w wr ∧ w8.heap.size ≤ wr.heap.size) (fun i _ => symN k - (intOf i).toNat)
  case atStart => exact ⟨0, Nat.zero_le _, rfl, HG8.out, HX8.out, HBw8.out, Nat.le_refl _⟩
  case round =>
    obtain ⟨j, hj, rfl, hr, hx, hbw, hsz⟩ := hrel
    by_cases hlt : j < symN k
    · have HLt := hid hlt
      have hltI : (j : Int) < (symN k : Int) := by omega
      have hj300 : (j : Int) < 300 := by have := HN.out; omega
      have HR := hid hr
      have HXr := hid hx
      have HBr := hid (And.intro hbw hsz)
      have hcell := hr.cell (rowMix_at (l := l) (j := j) hlt)
      rw [if_neg (Nat.lt_irrefl j)] at hcell
      unfold iv at hcell
      have hx1 := hx.cell (k := 1) rfl
      have hcI : (symN k : Int) ≤ (cap : Int) := by have := HG.out.2.1; omega
      have hcn := getD_cnt HH.out.2 j
      have HE := hid (show pcost k l j = LA - lg (l.getD j 0 + 1) + 256 * (sbits k j : Nat) from by rw [HLA.out]; rfl)
      generalize l.getD j 0 = cj at *
      have HCn := hid hcn
      clear hcn
      have hF := HF.out
      clear hj hlt hr hx hbw hsz
      go_wp2_with fail
      refine (fbits_any k j HLt.out wr).mono ?_
      rintro e w9 ⟨rfl, hb9⟩
      have HM9 := hid (prmust_ok w9.heap.size (w9.alloc (.cells #[.int .i64 0] 25)) ((Blk.new w9 [.int .i64 0] 25).cell (k := 0) rfl))
      have HB9 := hid (hb9.trans ((below_new w9 (.cells #[.int .i64 0] 25)).mono hb9.size))
      clear hb9 hcell hx1 hF
      go_wp2_with fail
      refine HM9.out.mono ?_
      rintro e w' ⟨rfl, rfl⟩
      generalize w9.alloc (.cells #[.int .i64 0] 25) = w10 at *
      have hcn := HCn.out
      unfold Cnt at hcn
      obtain ⟨hcn0, hcn1⟩ := hcn
      have hwn : IntKind.i64.wrap (cj + 1) = cj + 1 := by rw [IntKind.wrap_i64]; omega
      have HL10 := hid (prlog_any (cj + 1) w10 (by omega) (by omega))
      go_wp2_with fail
      refine HL10.out.mono ?_
      rintro e w11 ⟨rfl, hb11⟩
      have HB11 := hid (HB9.out.trans (hb11.mono HB9.out.size))
      have hr11 := HR.out.below HB11.out HR.out.lt
      have HX11 := hid (HXr.out.below HB11.out HXr.out.lt)
      have hz := hr11.frozen j
      have hcl := hr11.cell (rowMix_at (l := l) (j := j) HLt.out)
      have HR11 := hid hr11
      have hMb := lg_bounds (x := cj + 1) (by omega) (by omega)
      have hbb := sbits_lt k j HLt.out
      generalize lg (cj + 1) = LB at *
      generalize sbits k j = bb at *
      have hbI : (bb : Int) < 44 := by omega
      have hb0 : 0 ≤ (bb : Int) := by omega
      have hbm : ((bb : Int)) * 2 ^ 8 = 256 * (bb : Int) := by omega
      obtain ⟨hB0, hB1⟩ := hMb
      clear hb11 hr11 hwn hcn0 hcn1 hbb
      go_wp2_with fail
      go_roundw
      case rel =>
        have hbr := HBr.out
        refine ⟨j + 1, by have := HLt.out; omega, by go_num, ?_, ?_, ?_, ?_⟩
        · have h1 := HR11.out.set j (iv (pcost k l j))
          rw [rowMix_next] at h1
          rw [HE.out] at h1
          first | exact h1 | (have e : LA - LB + 256 * (bb : Int) = LA - LB + (bb : Int) * 256 := by omega
                              rw [e] at h1; exact h1)
        · exact HX11.out.other _ (by have h1 := HX8.out.lt; have h2 := HG.out.1; have h3 := HX3.out.lt; simp only; omega)
        · exact (hbr.1.trans (HB11.out.mono hbr.1.size)).setCell (p := ⟨g, j, none⟩) (by have h2 := HG.out.1; have h3 := HB3.out.size; simp only; omega) _
        · have := HB11.out.size
          simp
          omega
      case measure => have := HLt.out; simp [intOf]; omega
    · obtain rfl : j = symN k := by omega
      rw [rowMix_all] at hr
      have HRes := hid (hr.own (base := w.heap.size) (by have h2 := HG.out.1; have h3 := HB3.out.size; omega) HG.out.2.1 HG.out.2.2.1)
      have HBr := hid hbw
      clear hr hx hbw hsz hj hlt
      go_wp2
      go_ret
      exact ⟨_, rfl, HRes.out, HBr.out⟩
end Go.Proofs.YtlgablepckmogaaGreat
