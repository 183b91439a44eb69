/-
  The walks of layer 32 (price), fourth part: a model is made.
-/
import Derived.Test.YtlgablepckmogaaGreatQ16
namespace Go.Proofs.YtlgablepckmogaaGreat
open Go.RowKit Go.Port
/-- The rows below j hold the costs of their histograms. -/
def RowsOk (w : World) (V : Nat → Value) (j : Nat) (C : Nat → List Int) : Prop := ∀ i, i < j → ∃ g cap, V i = .slice (some ⟨g, 0, none⟩) (symN i) cap ∧ symN i ≤ cap ∧ cap ≤ maxLen ∧ RowIn w g cap (symN i) 3 ((pcosts i (C i)).map iv)
theorem RowsOk.low {w w' : World} {V : Nat → Value} {j : Nat} {C : Nat → List Int} (h : RowsOk w V j C) (hb : Below w.heap.size w w') : RowsOk w' V j C := fun i hi => by
  obtain ⟨g, cap, h1, h2, h3, h4⟩ := h i hi
  exact ⟨g, cap, h1, h2, h3, h4.below hb h4.lt⟩
/-- A model of the histograms C lies at block M. -/
structure PrAt (w : World) (M : Nat) (C : Nat → List Int) : Prop where
  ex : ∃ R V, Blk w M [.pointer (some ⟨R, 0, none⟩)] 158 ∧ Blk w R [V 0, V 1, V 2, V 3] 156 ∧ RowsOk w V 4 C
  ok : ∀ k, k < 4 → HistOk k (C k)
theorem PrAt.low {w w' : World} {M : Nat} {C : Nat → List Int} (h : PrAt w M C) (hb : Below w.heap.size w w') : PrAt w' M C := by
  obtain ⟨R, V, h1, h2, h3⟩ := h.ex
  exact ⟨⟨R, V, h1.below hb h1.lt, h2.below hb h2.lt, h3.low hb⟩, h.ok⟩
/-- Four slices that read as the histograms C. -/
structure FourAt (w : World) (A : Nat → Option Addr) (cp : Nat → Nat) (C : Nat → List Int) : Prop where
  cap : ∀ k, k < 4 → (C k).length ≤ cp k
  max : ∀ k, k < 4 → cp k ≤ maxLen
  nil : ∀ k, k < 4 → A k = none → cp k = 0
  cells : ∀ k, k < 4 → Cs w (A k) ((C k).map iv)
theorem FourAt.low {w w' : World} {A : Nat → Option Addr} {cp : Nat → Nat} {C : Nat → List Int} (h : FourAt w A cp C) (hb : Below w.heap.size w w') : FourAt w' A cp C := ⟨h.cap, h.max, h.nil, fun k hk => (h.cells k hk).low hb⟩
def fourV (A : Nat → Option Addr) (cp : Nat → Nat) (C : Nat → List Int) : Value :=
  .agg #[.slice (A 0) (C 0).length (cp 0), .slice (A 1) (C 1).length (cp 1), .slice (A 2) (C 2).length (cp 2), .slice (A 3) (C 3).length (cp 3)]
theorem ix0 (v0 v1 v2 v3 : Value) (w : World) : (Instr.index 121 (.agg #[v0, v1, v2, v3]) (.int .i64 0)).run Tryz.prog w = .ok v0 w := by kernel_rfl
theorem ix1 (v0 v1 v2 v3 : Value) (w : World) : (Instr.index 121 (.agg #[v0, v1, v2, v3]) (.int .i64 1)).run Tryz.prog w = .ok v1 w := by kernel_rfl
theorem ix2 (v0 v1 v2 v3 : Value) (w : World) : (Instr.index 121 (.agg #[v0, v1, v2, v3]) (.int .i64 2)).run Tryz.prog w = .ok v2 w := by kernel_rfl
theorem ix3 (v0 v1 v2 v3 : Value) (w : World) : (Instr.index 121 (.agg #[v0, v1, v2, v3]) (.int .i64 3)).run Tryz.prog w = .ok v3 w := by kernel_rfl
theorem index_four (v0 v1 v2 v3 : Value) (V : Nat → Value) (h0 : V 0 = v0) (h1 : V 1 = v1) (h2 : V 2 = v2) (h3 : V 3 = v3) (j : Nat) (hj : j < 4) (w : World) : (Instr.index 121 (.agg #[v0, v1, v2, v3]) (.int .i64 (j : Int))).run Tryz.prog w = .ok (V j) w := by
  have : j = 0 ∨ j = 1 ∨ j = 2 ∨ j = 3 := by omega
  rcases this with rfl | rfl | rfl | rfl
  · rw [h0]; exact ix0 v0 v1 v2 v3 w
  · rw [h1]; exact ix1 v0 v1 v2 v3 w
  · rw [h2]; exact ix2 v0 v1 v2 v3 w
  · rw [h3]; exact ix3 v0 v1 v2 v3 w
theorem set_four (V : Nat → Value) (u : Value) (j : Nat) (hj : j < 4) : [V 0, V 1, V 2, V 3].set j u = [(fun i => if i = j then u else V i) 0, (fun i => if i = j then u else V i) 1, (fun i => if i = j then u else V i) 2, (fun i => if i = j then u else V i) 3] := by
  have : j = 0 ∨ j = 1 ∨ j = 2 ∨ j = 3 := by omega
  rcases this with rfl | rfl | rfl | rfl <;> rfl
theorem get_four (V : Nat → Value) (j : Nat) (hj : j < 4) : [V 0, V 1, V 2, V 3][j]? = some (V j) := by
  have : j = 0 ∨ j = 1 ∨ j = 2 ∨ j = 3 := by omega
  rcases this with rfl | rfl | rfl | rfl <;> rfl
/-- While a model is made: j rows are there. -/
structure MadeIn (w wr : World) (j : Nat) (C : Nat → List Int) : Prop where
  m : Blk wr (w.heap.size + 1 + 1 + 1 + 1) [.pointer (some ⟨w.heap.size + 1 + 1 + 1, 0, none⟩)] 158
  r : ∃ V, Blk wr (w.heap.size + 1 + 1 + 1) [V 0, V 1, V 2, V 3] 156 ∧ RowsOk wr V j C
  e : Blk wr (w.heap.size + 1 + 1) [.int .i64 0] 25
  p : Blk wr (w.heap.size + 1) [.pointer (some ⟨w.heap.size + 1 + 1 + 1 + 1, 0, none⟩)] 88
  low : Below w.heap.size w wr
theorem MadeIn.below {w wr w' : World} {j : Nat} {C : Nat → List Int} (h : MadeIn w wr j C) (hb : Below wr.heap.size wr w') : MadeIn w w' j C := by
  obtain ⟨V, h1, h2⟩ := h.r
  exact ⟨h.m.below hb h.m.lt, ⟨V, h1.below hb h1.lt, h2.low hb⟩, h.e.below hb h.e.lt, h.p.below hb h.p.lt, h.low.trans (hb.mono h.low.size)⟩
theorem MadeIn.row {w wr : World} {j : Nat} {C : Nat → List Int} (h : MadeIn w wr j C) (hj : j < 4) {v : Value} (ho : wr.ownsRow (w.heap.size + 5) 3 1 v (symN j) ((pcosts j (C j)).map iv)) : MadeIn w (wr.setCell ⟨w.heap.size + 1 + 1 + 1, j, none⟩ v) (j + 1) C := by
  obtain ⟨V, h1, h2⟩ := h.r
  have hs : 0 < symN j := by have := symN_le j; omega
  obtain ⟨g, cap, e1, e2, e3, e4, e5⟩ := RowIn.of_own ho hs
  have hn : ∀ k, k ≠ w.heap.size + 1 + 1 + 1 → (⟨w.heap.size + 1 + 1 + 1, j, none⟩ : Addr).block ≠ k := fun k hk e => hk e.symm
  refine ⟨h.m.other _ (hn _ (by omega)), ⟨fun i => if i = j then v else V i, ?_, fun i hi => ?_⟩, h.e.other _ (hn _ (by omega)), h.p.other _ (hn _ (by omega)), h.low.setCell (by simp only; omega) _⟩
  · rw [← set_four V v j hj]
    exact h1.set j v
  · by_cases hij : i = j
    · subst hij
      exact ⟨g, cap, (if_pos rfl).trans e1, e3, e4, e5.other _ (by simp only; omega)⟩
    · obtain ⟨g2, cap2, f1, f2, f3, f4⟩ := h2 i (by omega)
      refine ⟨g2, cap2, (if_neg hij).trans f1, f2, f3, f4.other _ (fun e => ?_)⟩
      obtain ⟨cs, hb, hl, ht⟩ := f4
      simp only at e
      rw [← e] at hb
      have hx := h1
      unfold Blk at hb hx
      rw [hb] at hx
      have := Option.some.inj hx
      have h3 : 3 = 156 := congrArg (fun o => match o with | .cells _ t _ => t | _ => 0) this
      exact absurd h3 (by decide)
theorem RowsOk.other {w : World} {V : Nat → Value} {j : Nat} {C : Nat → List Int} (h : RowsOk w V j C) {b k : Nat} {vs : List Value} {t : TypeId} (hb : Blk w b vs t) (ht : t ≠ 3) (u : Value) : RowsOk (w.setCell ⟨b, k, none⟩ u) V j C := fun i hi => by
  obtain ⟨g2, cap2, f1, f2, f3, f4⟩ := h i hi
  refine ⟨g2, cap2, f1, f2, f3, f4.other _ (fun e => ?_)⟩
  obtain ⟨cs, hb2, hl, ht2⟩ := f4
  simp only at e
  rw [← e] at hb2
  unfold Blk at hb2 hb
  rw [hb] at hb2
  have := Option.some.inj hb2
  exact ht (congrArg (fun o => match o with | .cells _ t _ => t | _ => 0) this)
theorem MadeIn.again {w wr : World} {C : Nat → List Int} (h : MadeIn w wr 4 C) : MadeIn w ((wr.setCell ⟨w.heap.size + 1, 0, none⟩ (.pointer (some ⟨w.heap.size + 1 + 1 + 1 + 1, 0, none⟩))).setCell ⟨w.heap.size + 1 + 1, 0, none⟩ (.int .i64 0)) 4 C := by
  obtain ⟨V, h1, h2⟩ := h.r
  have e1 := h.e.other (a := ⟨w.heap.size + 1, 0, none⟩) (.pointer (some ⟨w.heap.size + 1 + 1 + 1 + 1, 0, none⟩)) (by simp)
  exact ⟨(h.m.other _ (by simp only; omega)).other _ (by simp only; omega), ⟨V, (h1.other _ (by simp only; omega)).other _ (by simp only; omega), (h2.other h.p (by decide) _).other e1 (by decide) _⟩,
    e1.set 0 (.int .i64 0), (h.p.set 0 (.pointer (some ⟨w.heap.size + 1 + 1 + 1 + 1, 0, none⟩))).other _ (by simp), (h.low.setCell (by simp) _).setCell (by simp only; omega) _⟩
theorem MadeIn.pr {w wr : World} {C : Nat → List Int} (h : MadeIn w wr 4 C) (hok : ∀ k, k < 4 → HistOk k (C k)) : PrAt wr (w.heap.size + 1 + 1 + 1 + 1) C := by
  obtain ⟨V, h1, h2⟩ := h.r
  exact ⟨⟨_, V, h.m, h1, h2⟩, hok⟩
/-- How the region of a bad row is left. -/
def BadRow (w wr : World) (D : List Deferred) : Exit → Act → World → Prop
  | .panic c, a, w' => c = [{ v := .iface 25 (.int .i64 2), recovered := false }] ∧ a.defers = D ∧ a.tmps[2]? = some (.pointer (some ⟨w.heap.size + 1, 0, none⟩)) ∧ a.tmps[3]? = some (.pointer (some ⟨w.heap.size + 1 + 1, 0, none⟩)) ∧ Below wr.heap.size wr w'
  | _, _, _ => False
theorem BadRow.put {w wr : World} {D : List Deferred} {d : Nat} (hd : 3 < d) {v : Value} {c : List PanicEntry} {a : Act} {w' : World} (h : BadRow w wr D (.panic c) (a.put (some d) v) w') : BadRow w wr D (.panic c) a w' := by
  obtain ⟨h1, h2, h3, h4, h5⟩ := h
  refine ⟨h1, h2, ?_, ?_, h5⟩
  · rw [← h3]
    exact (Array.getElem?_setIfInBounds_ne (by omega)).symm
  · rw [← h4]
    exact (Array.getElem?_setIfInBounds_ne (by omega)).symm
set_option maxRecDepth 100000 in
set_option maxHeartbeats 4000000 in
theorem prmade_ok (A : Nat → Option Addr) (cp : Nat → Nat) (C : Nat → List Int) (w : World) (h : FourAt w A cp C) (hok : ∀ k, k < 4 → HistOk k (C k)) :
    Calls Tryz.prog 57 #[fourV A cp C] w fun e w' => ∃ M, e = .returned (.tuple #[.pointer (some ⟨M, 0, none⟩), .int .i64 0]) ∧ PrAt w' M C ∧ w.heap.size ≤ M ∧ Below w.heap.size w w' := by
  have HH := hid h
  clear h
  unfold fourV
  go_enter_defers Tryz.func57, Tryz.ntmps57
  go_wp2_with fail
  have hix := index_four _ _ _ _ (fun k => .slice (A k) (C k).length (cp k)) rfl rfl rfl rfl
  have HIX := hid hix
  clear hix
  have HI0 : Hid (MadeIn w (((((w.alloc (.cells #[.slice (A 0) (C 0).length (cp 0), .slice (A 1) (C 1).length (cp 1), .slice (A 2) (C 2).length (cp 2), .slice (A 3) (C 3).length (cp 3)] 121)).alloc (.cells #[.pointer (some ⟨w.heap.size + 1 + 1 + 1 + 1, 0, none⟩)] 88)).alloc (.cells #[.int .i64 0] 25)).alloc (.cells #[.slice none 0 0, .slice none 0 0, .slice none 0 0, .slice none 0 0] 156)).alloc (.cells #[.pointer (some ⟨w.heap.size + 1 + 1 + 1, 0, none⟩)] 158)) 0 C) :=
    hid ⟨Blk.newAt (by simp), ⟨fun _ => .slice none 0 0, (Blk.newAt (by simp)).alloc _, fun i hi => by omega⟩, ((Blk.newAt (by simp)).alloc _).alloc _, (((Blk.newAt (by simp)).alloc _).alloc _).alloc _,
      (((((Below.refl w.heap.size w).alloc (Nat.le_refl _) _).alloc (by simp) _).alloc (by simp; omega) _).alloc (by simp; omega) _).alloc (by simp; omega) _⟩
  generalize (((((w.alloc (.cells #[.slice (A 0) (C 0).length (cp 0), .slice (A 1) (C 1).length (cp 1), .slice (A 2) (C 2).length (cp 2), .slice (A 3) (C 3).length (cp 3)] 121)).alloc (.cells #[.pointer (some ⟨w.heap.size + 1 + 1 + 1 + 1, 0, none⟩)] 88)).alloc (.cells #[.int .i64 0] 25)).alloc (.cells #[.slice none 0 0, .slice none 0 0, .slice none 0 0, .slice none 0 0] 156)).alloc (.cells #[.pointer (some ⟨w.heap.size + 1 + 1 + 1, 0, none⟩)] 158)) = we at *
  go_loopw [12] (fun i wr => ∃ j : Nat, j ≤ 4 ∧ i = .int .i64 (j : Int) ∧ MadeIn w wr j C) (fun i _ => 4 - (intOf i).toNat)
  case atStart => exact ⟨0, by omega, rfl, HI0.out⟩
  case round =>
    obtain ⟨j, hj, rfl, hI⟩ := hrel
    by_cases hlt : j < 4
    · have HLt := hid hlt
      have hltI : (j : Int) < 4 := by omega
      have hix := HIX.out j hlt
      have HI := hid hI
      clear hj hlt hI
      go_wp2_with fail
      clear hix
      have HRow := hid (fun W hb => prrow_ok j HLt.out (A j) (cp j) (C j) W (hok j HLt.out) (HH.out.cap j HLt.out) (HH.out.max j HLt.out) (HH.out.nil j HLt.out) ((HH.out.low hb).cells j HLt.out))
      refine wp_region_noPanic ?_
      refine wp_region_held_drew (S := fun W' => Blk W' (w.heap.size + 1) [.pointer (some ⟨w.heap.size + 1 + 1 + 1 + 1, 0, none⟩)] 88 ∧ Blk W' (w.heap.size + 1 + 1 + 1 + 1) [.pointer (some ⟨w.heap.size + 1 + 1 + 1, 0, none⟩)] 158) (by kernel_rfl) ⟨HI.out.p, HI.out.m⟩ (fun hHeld => ?_)
      refine wpAnyH_take (i := 0) (v := .pointer (some ⟨w.heap.size + 1 + 1 + 1 + 1, 0, none⟩)) (by simp only [List.getElem?_toArray, List.getElem?_cons_zero]; rfl) (by kernel_rfl) (by kernel_rfl) (by kernel_rfl) (fun _ _ _ h => h) (Or.inl ⟨by rfl, fun W hSw => ?_⟩) (by assumption) ?_
      · have hcw := hSw.1.cell (k := 0) rfl
        go_simp
      simp only [Act.put, List.setIfInBounds_toArray, List.set_cons_zero, List.set_cons_succ]
      refine wpAnyH_take (i := 1) (v := .pointer (some ⟨w.heap.size + 1 + 1 + 1 + 1, 0, none⟩)) (by simp only [List.getElem?_toArray, List.getElem?_cons_zero, List.getElem?_cons_succ]; rfl) (by kernel_rfl) (by kernel_rfl) (by kernel_rfl) (fun _ _ _ h => h) (Or.inl ⟨by rfl, fun W hSw => ?_⟩) (by assumption) ?_
      · clear hSw
        go_simp
      simp only [Act.put, List.setIfInBounds_toArray, List.set_cons_zero, List.set_cons_succ]
      refine wpAnyH_take (i := 2) (v := .pointer (some ⟨w.heap.size + 1 + 1 + 1 + 1, 0, none⟩)) (by simp only [List.getElem?_toArray, List.getElem?_cons_zero, List.getElem?_cons_succ]; rfl) (by kernel_rfl) (by kernel_rfl) (by kernel_rfl) (fun _ _ _ h => h) (Or.inl ⟨by rfl, fun W hSw => ?_⟩) (by assumption) ?_
      · clear hSw
        go_simp
      simp only [Act.put, List.setIfInBounds_toArray, List.set_cons_zero, List.set_cons_succ]
      refine wpAnyH_take (i := 3) (v := .pointer (some ⟨w.heap.size + 1 + 1 + 1, 0, none⟩)) (by simp only [List.getElem?_toArray, List.getElem?_cons_zero, List.getElem?_cons_succ]; rfl) (by kernel_rfl) (by kernel_rfl) (by kernel_rfl) (fun _ _ _ h => h) (Or.inl ⟨by rfl, fun W hSw => ?_⟩) (by assumption) ?_
      · have hcw := hSw.2.cell (k := 0) rfl
        go_simp
      simp only [Act.put, List.setIfInBounds_toArray, List.set_cons_zero, List.set_cons_succ]
      refine wpAnyH_take (i := 4) (v := .int .i64 (j : Int)) (by simp only [List.getElem?_toArray, List.getElem?_cons_zero, List.getElem?_cons_succ]; rfl) (by kernel_rfl) (by kernel_rfl) (by kernel_rfl) (fun _ _ _ h => h) (Or.inl ⟨by rfl, fun W hSw => ?_⟩) (by assumption) ?_
      · clear hSw
        go_simp
      simp only [Act.put, List.setIfInBounds_toArray, List.set_cons_zero, List.set_cons_succ]
      refine wpAnyH_take (i := 5) (v := .int .i64 (j : Int)) (by simp only [List.getElem?_toArray, List.getElem?_cons_zero, List.getElem?_cons_succ]; rfl) (by kernel_rfl) (by kernel_rfl) (by kernel_rfl) (fun _ _ _ h => h) (Or.inl ⟨by rfl, fun W hSw => ?_⟩) (by assumption) ?_
      · clear hSw
        go_simp
      simp only [Act.put, List.setIfInBounds_toArray, List.set_cons_zero, List.set_cons_succ]
      refine wpAnyH_take (i := 6) (v := .slice (A j) (C j).length (cp j)) (by simp only [List.getElem?_toArray, List.getElem?_cons_zero, List.getElem?_cons_succ]; rfl) (by kernel_rfl) (by kernel_rfl) (by kernel_rfl) (fun _ _ _ h => h) (Or.inl ⟨by rfl, fun W hSw => ?_⟩) (by assumption) ?_
      · clear hSw
        go_simp
      simp only [Act.put, List.setIfInBounds_toArray, List.set_cons_zero, List.set_cons_succ]
      refine wpAnyH_take (i := 8) (v := .pointer (some ⟨w.heap.size + 1 + 1 + 1, 0, none⟩)) (by simp only [List.getElem?_toArray, List.getElem?_cons_zero, List.getElem?_cons_succ]; rfl) (by kernel_rfl) (by kernel_rfl) (by kernel_rfl) (fun _ _ _ h => h) (Or.inl ⟨by rfl, fun W hSw => ?_⟩) (by assumption) ?_
      · clear hSw
        go_simp
      simp only [Act.put, List.setIfInBounds_toArray, List.set_cons_zero, List.set_cons_succ]
      refine wpAnyH_take (i := 9) (v := .pointer (some ⟨w.heap.size + 1 + 1 + 1, 0, none⟩)) (by simp only [List.getElem?_toArray, List.getElem?_cons_zero, List.getElem?_cons_succ]; rfl) (by kernel_rfl) (by kernel_rfl) (by kernel_rfl) (fun _ _ _ h => h) (Or.inl ⟨by rfl, fun W hSw => ?_⟩) (by assumption) ?_
      · clear hSw
        go_simp
      simp only [Act.put, List.setIfInBounds_toArray, List.set_cons_zero, List.set_cons_succ]
      refine wpAnyH_ready (rs := [7]) (by kernel_rfl) (by simp) ?_
      refine AllReadyH.cons (by simp only [List.getElem?_toArray, List.getElem?_cons_zero, List.getElem?_cons_succ]; rfl) (fun K hK => ?_) AllReadyH.nil
      rw [if_pos (by rfl)]
      go_simp
      go_at_call 83
      refine (HRow.out _ (HI.out.low.trans ((Below.refl _ _).drew.mono HI.out.low.size))).mono ?_
      rintro e w4 ⟨v, rfl, hown, hb4⟩
      have HB4 := hid ((show Below wr.heap.size wr wr.drew from (Below.refl _ _).drew).trans hb4)
      have HO4 := hid hown
      dsimp only
      have HI4 := hid (HI.out.below HB4.out)
      refine hK.out _ _ ⟨HI4.out.p, HI4.out.m⟩ (fun _ => ?_)
      clear hK K hown hb4
      obtain ⟨av, cv, rfl⟩ := own_slice HO4.out
      obtain ⟨V, hV1, hV2⟩ := HI4.out.r
      have hvc := hV1.cell (get_four V j HLt.out)
      have hvz := hV1.frozen j
      have HI5 := hid (HI4.out.row HLt.out (own_le HO4.out (by have := HI.out.m.lt; simp; omega)))
      clear hV1 hV2
      refine wpAnyH_take (i := 10) (v := .pointer (some ⟨w.heap.size + 1 + 1 + 1, j, none⟩)) (by simp only [List.getElem?_toArray, List.getElem?_cons_zero, List.getElem?_cons_succ]; rfl) (by kernel_rfl) (by kernel_rfl) (by kernel_rfl) (fun _ _ _ h => h) (Or.inl ⟨by rfl, fun W hSw => ?_⟩) (by assumption) ?_
      · clear hSw
        go_simp
      simp only [Act.put, List.setIfInBounds_toArray, List.set_cons_zero, List.set_cons_succ]
      refine wpAnyH_ready (rs := [11]) (by kernel_rfl) (by simp) ?_
      refine AllReadyH.cons (by simp only [List.getElem?_toArray, List.getElem?_cons_zero, List.getElem?_cons_succ]; rfl) (fun K hK => ?_) AllReadyH.nil
      rw [if_pos (by rfl)]
      go_simp
      refine hK.out _ _ ⟨HI5.out.p, HI5.out.m⟩ (fun _ => ?_)
      clear hK K
      refine wpAnyH_done (by kernel_rfl) ?_ _
      refine NoPanic.normal ?_
      clear hvc hvz
      go_wp2_with fail
      go_roundw
      case rel => exact ⟨j + 1, by have := HLt.out; omega, by go_num, HI5.out⟩
      case measure => have := HLt.out; simp [intOf]; omega
    · obtain rfl : j = 4 := by omega
      have HI := hid hI
      have p0 := hI.p.cell (k := 0) rfl
      have p1 := hI.p.frozen 0
      have e0 := hI.e.cell (k := 0) rfl
      have e1 := hI.e.frozen 0
      clear hI hj hlt
      go_wp2_with fail
      have HI9 := hid HI.out.again
      generalize (wr.setCell ⟨w.heap.size + 1, 0, none⟩ (.pointer (some ⟨w.heap.size + 1 + 1 + 1 + 1, 0, none⟩))).setCell ⟨w.heap.size + 1 + 1, 0, none⟩ (.int .i64 0) = w9 at *
      have q0 := HI9.out.p.cell (k := 0) rfl
      have q1 := HI9.out.e.cell (k := 0) rfl
      refine leaves_cons (f := 59) (args := #[.pointer (some ⟨w.heap.size + 1 + 1, 0, none⟩), .func (.func 82) #[] #[.pointer (some ⟨w.heap.size + 1, 0, none⟩)]]) (by simp) (by simp [go_sem]) ?_
      refine (prcaught_idle ⟨w.heap.size + 1 + 1, 0, none⟩ _ _).mono ?_
      rintro e u' w'' ⟨rfl, rfl, rfl⟩
      refine ⟨_, ?_, _, rfl, HI9.out.pr hok, by omega, HI9.out.low⟩
      simp [results, Tryz.results57, go_sem, q0, q1]
end Go.Proofs.YtlgablepckmogaaGreat
