/-
  The walks of layer 22 (plan): Literals.
-/
import Derived.Test.YtlgablepckmogaaGreatQ21
namespace Go.Port
open Go.RowKit
/-- The literals of sequences from a on. -/
def litsGo (bs : List UInt8) : Int → List Sq → List UInt8
  | _, [] => []
  | a, s :: r => (bs.drop a.toNat).take s.lit.toNat ++ litsGo bs (a + s.lit + s.len) r
/-- The literals that a plan leaves. -/
def litsS (bs : List UInt8) (l : List Sq) : List UInt8 := litsGo bs 0 l ++ bs.drop (lend 0 l).toNat
theorem litsGo_snoc (bs : List UInt8) (x : Sq) : ∀ (l : List Sq) (a : Int), litsGo bs a (l ++ [x]) = litsGo bs a l ++ (bs.drop (lend a l).toNat).take x.lit.toNat := by
  intro l
  induction l with
  | nil => intro a; simp [litsGo, lend]
  | cons s r ih => intro a; simp only [List.cons_append, litsGo, ih, lend, List.append_assoc]
theorem planEnd_pre : ∀ (p q : List Sq) (a n : Int), planEnd a (p ++ q) = some n → planEnd a p = some (lend a p) := by
  intro p
  induction p with
  | nil => intro q a n _; rfl
  | cons s r ih =>
    intro q a n h
    rw [List.cons_append] at h
    unfold planEnd at h ⊢
    split at h
    · rename_i hb
      rw [if_pos hb]
      exact ih q _ n h
    · cases h
theorem litsGo_len (bs : List UInt8) : ∀ (l : List Sq) (a n : Int), planEnd a l = some n → ((litsGo bs a l).length : Int) ≤ n - a := by
  intro l
  induction l with
  | nil => intro a n h; simp only [planEnd, Option.some.injEq] at h; subst h; simp [litsGo]
  | cons s r ih =>
    intro a n h
    unfold planEnd at h
    split at h
    · rename_i hb
      have h1 := linB_in hb
      have h2 := ih _ n h
      simp only [litsGo, List.length_append, List.length_take]
      omega
    · cases h
theorem litsS_len {bs : List UInt8} {l : List Sq} {n : Int} (h : planEnd 0 l = some n) (hn : n ≤ bs.length) : (litsS bs l).length ≤ bs.length := by
  have h1 := litsGo_len bs l 0 n h
  obtain ⟨h2, h3, _⟩ := planEnd_some l 0 n h
  unfold litsS
  rw [List.length_append, List.length_drop, ← h2]
  omega
/-- The sequence k of a plan lies within the data. -/
theorem plan_at {bs : List UInt8} {l : List Sq} {n : Int} (h : planEnd 0 l = some n) (hn : n ≤ bs.length) {k : Nat} {s : Sq} (hk : l[k]? = some s) : ∃ P T : Nat, lend 0 (l.take k) = (P : Int) ∧ s.lit = (T : Int) ∧ P + T ≤ bs.length := by
  obtain ⟨hlt, e⟩ := List.getElem?_eq_some_iff.1 hk
  have e2 : l = l.take k ++ s :: l.drop (k + 1) := by rw [← e, ← List.drop_eq_getElem_cons hlt, List.take_append_drop]
  obtain ⟨h1, h2⟩ := lpl_of l 0 n (Int.le_refl _) h (l.take k) s _ e2
  obtain ⟨h3, h4, h5⟩ := linB_in h1
  have h6 : planEnd 0 (l.take k ++ [s]) = some (lend 0 (l.take k ++ [s])) := by
    refine planEnd_pre (l.take k ++ [s]) (l.drop (k + 1)) 0 n ?_
    rw [List.append_assoc]
    show planEnd 0 (l.take k ++ s :: l.drop (k + 1)) = some n
    rw [← e2]; exact h
  have h7 : lend 0 (l.take k ++ [s]) ≤ n := by
    have h8 : planEnd (lend 0 (l.take k ++ [s])) (l.drop (k + 1)) = some n := by
      have : ∀ (p q : List Sq) (a : Int), planEnd a (p ++ q) = some n → planEnd (lend a p) q = some n := by
        intro p
        induction p with
        | nil => intro q a h; exact h
        | cons x r ih =>
          intro q a h
          rw [List.cons_append] at h
          unfold planEnd at h
          split at h
          · exact ih q _ h
          · cases h
      refine this _ _ 0 ?_
      rw [List.append_assoc]
      show planEnd 0 (l.take k ++ s :: l.drop (k + 1)) = some n
      rw [← e2]; exact h
    exact (planEnd_some _ _ _ h8).2.1
  rw [lend_snoc] at h7
  exact ⟨(lend 0 (l.take k)).toNat, s.lit.toNat, by omega, by omega, by omega⟩
theorem Cs.part {w : World} {b o : Nat} {bs : List UInt8} (h : Cs w (some ⟨b, o, none⟩) (bs.map bv)) (P T : Nat) : Cs w (some ⟨b, o + P, none⟩) (((bs.drop P).take T).map bv) := by
  intro j u hu
  rw [List.getElem?_map, List.getElem?_take] at hu
  split at hu
  · rw [List.getElem?_drop] at hu
    obtain ⟨b2, o2, e1, e2, e3⟩ := h (P + j) u (by rw [List.getElem?_map]; exact hu)
    cases e1
    exact ⟨b, o + P, rfl, e2, by rw [Nat.add_assoc]; exact e3⟩
  · cases hu
/-- A slice that reads as bytes. -/
structure BySl (w : World) (v : Value) (n : Nat) (bs : List UInt8) : Prop where
  ex : ∃ a c, v = .slice a n c ∧ n ≤ c ∧ (a = none → c = 0) ∧ Cs w a (bs.map bv)
  len : bs.length = n
end Go.Port
namespace Go.Proofs.YtlgablepckmogaaGreat
open Go.RowKit Go.Port
theorem Tryz.info_u8 : (Tryz.prog.info? 5).map (fun i => (i.zero, i.size, i.bytes)) = some (some (.int .u8 0), 1, 1) := by kernel_rfl
set_option maxRecDepth 100000 in
set_option maxHeartbeats 2000000 in
theorem llit1_any (q : Nat) (ad : Option Addr) (L c : Nat) (bs : List UInt8) (P T : Nat) (len off num : Int) (w : World) (hL : bs.length = L) (hLc : L ≤ c) (hcm : L ≤ 1000000 ∧ c ≤ 9223372036854775807) (had : ad = none → c = 0) (hQ : Blk w q [.slice ad L c] 22) (hc : Cs w ad (bs.map bv)) (hPT : P + T ≤ L) (hPm : P ≤ 131072) (hTm : T ≤ 131072) :
    Calls Tryz.prog 23 #[.agg #[.int .i64 (T : Int), .int .i64 len, .int .i64 off, .int .i64 num, .int .i64 (P : Int), .int .i64 131072, .int .i64 0, .int .i64 0], .pointer (some ⟨q, 0, none⟩)] w fun e w' => ∃ v, e = .returned v ∧ BySl w' v T ((bs.drop P).take T) ∧ Below w.heap.size w w' := by
  have HX := hid (Blk.new w [.int .i64 (T : Int), .int .i64 len, .int .i64 off, .int .i64 num, .int .i64 (P : Int), .int .i64 131072, .int .i64 0, .int .i64 0] 57)
  have HQ := hid (hQ.alloc (.cells #[.int .i64 (T : Int), .int .i64 len, .int .i64 off, .int .i64 num, .int .i64 (P : Int), .int .i64 131072, .int .i64 0, .int .i64 0] 57))
  have HBl := hid (below_new w (.cells #[.int .i64 (T : Int), .int .i64 len, .int .i64 off, .int .i64 num, .int .i64 (P : Int), .int .i64 131072, .int .i64 0, .int .i64 0] 57))
  have HC := hid hc
  have HM := hid (fun W => lmatch2_any ⟨⟨(T : Int), len, off⟩, num, (P : Int), 131072, 0, 0⟩ W (by constructor <;> simp only <;> omega) (by constructor <;> simp only <;> omega))
  unfold lstv at HM
  dsimp only at HM
  have hlen : ((bs.drop P).take T).length = T := by rw [List.length_take, List.length_drop]; omega
  have HLen := hid hlen
  clear hQ hc hlen
  by_cases hlt : P < c
  · have hsome : ∃ b o, ad = some ⟨b, o, none⟩ ∨ (bs = [] ∧ ad ≠ none) := by
      cases bs with
      | nil =>
        cases had' : ad with
        | none => have := had had'; omega
        | some x => exact ⟨0, 0, .inr ⟨rfl, by simp⟩⟩
      | cons x r =>
        obtain ⟨b, o, e, _⟩ := HC.out 0 (bv x) rfl
        exact ⟨b, o, .inl e⟩
    by_cases he : bs = []
    · subst he
      have hz : L = 0 := by simpa using hL.symm
      subst hz
      obtain rfl : P = 0 := by omega
      obtain rfl : T = 0 := by omega
      obtain ⟨a, ha⟩ : ∃ a, ad = some a := by
        cases had' : ad with
        | none => have := had had'; omega
        | some x => exact ⟨x, rfl⟩
      have hpc : (0 : Int) < (c : Int) := by omega
      have hcI : (c : Int) ≤ 9223372036854775807 := by omega
      have HA := hid ha
      clear hsome hL hLc hcm had hPT hPm hTm hlt
      go_enter Tryz.func23, Tryz.ntmps23
      go_wp2_with fail
      generalize w.alloc (.cells #[.int .i64 ((0 : Nat) : Int), .int .i64 len, .int .i64 off, .int .i64 num, .int .i64 ((0 : Nat) : Int), .int .i64 131072, .int .i64 0, .int .i64 0] 57) = w1 at *
      refine wp_region_noPanic ?_
      refine wp_region_held_drew (S := fun W' => Below w1.heap.size w1 W') (by kernel_rfl) (Below.refl _ _).drew (fun hHeld => ?_)
      refine wpAnyH_take (i := 0) (v := .slice ad 0 c) (by simp only [List.getElem?_toArray, List.getElem?_cons_zero]; rfl) (by kernel_rfl) (by kernel_rfl) (by kernel_rfl) (fun _ _ _ h => h) (Or.inl ⟨by rfl, fun W hSw => ?_⟩) (by assumption) ?_
      · have hcw := (hSw.cell (p := ⟨q, 0, none⟩) HQ.out.lt).trans (HQ.out.cell (k := 0) rfl)
        go_simp
      simp only [Act.put, List.setIfInBounds_toArray, List.set_cons_zero, List.set_cons_succ]
      refine wpAnyH_take (i := 1) (v := .pointer (some ⟨w.heap.size, 4, none⟩)) (by simp only [List.getElem?_toArray, List.getElem?_cons_zero, List.getElem?_cons_succ]; rfl) (by kernel_rfl) (by kernel_rfl) (by kernel_rfl) (fun _ _ _ h => h) (Or.inl ⟨by rfl, fun W hSw => ?_⟩) (by assumption) ?_
      · clear hSw
        go_simp
      simp only [Act.put, List.setIfInBounds_toArray, List.set_cons_zero, List.set_cons_succ]
      refine wpAnyH_take (i := 2) (v := .int .i64 ((0 : Nat) : Int)) (by simp only [List.getElem?_toArray, List.getElem?_cons_zero, List.getElem?_cons_succ]; rfl) (by kernel_rfl) (by kernel_rfl) (by kernel_rfl) (fun _ _ _ h => h) (Or.inl ⟨by rfl, fun W hSw => ?_⟩) (by assumption) ?_
      · have hcw := (hSw.cell (p := ⟨w.heap.size, 4, none⟩) HX.out.lt).trans (HX.out.cell (k := 4) rfl)
        go_simp
      simp only [Act.put, List.setIfInBounds_toArray, List.set_cons_zero, List.set_cons_succ]
      refine wpAnyH_take (i := 3) (v := .agg #[.int .i64 ((0 : Nat) : Int), .int .i64 len, .int .i64 off, .int .i64 num, .int .i64 ((0 : Nat) : Int), .int .i64 131072, .int .i64 0, .int .i64 0]) (by simp only [List.getElem?_toArray, List.getElem?_cons_zero, List.getElem?_cons_succ]; rfl) (by kernel_rfl) (by kernel_rfl) (by kernel_rfl) (fun _ _ _ h => h) (Or.inl ⟨by rfl, fun W hSw => ?_⟩) (by assumption) ?_
      · have g0 := (hSw.cell (p := ⟨w.heap.size, 0, none⟩) HX.out.lt).trans (HX.out.cell (k := 0) rfl)
        have g1 := (hSw.cell (p := ⟨w.heap.size, 1, none⟩) HX.out.lt).trans (HX.out.cell (k := 1) rfl)
        have g2 := (hSw.cell (p := ⟨w.heap.size, 2, none⟩) HX.out.lt).trans (HX.out.cell (k := 2) rfl)
        have g3 := (hSw.cell (p := ⟨w.heap.size, 3, none⟩) HX.out.lt).trans (HX.out.cell (k := 3) rfl)
        have g4 := (hSw.cell (p := ⟨w.heap.size, 4, none⟩) HX.out.lt).trans (HX.out.cell (k := 4) rfl)
        have g5 := (hSw.cell (p := ⟨w.heap.size, 5, none⟩) HX.out.lt).trans (HX.out.cell (k := 5) rfl)
        have g6 := (hSw.cell (p := ⟨w.heap.size, 6, none⟩) HX.out.lt).trans (HX.out.cell (k := 6) rfl)
        have g7 := (hSw.cell (p := ⟨w.heap.size, 7, none⟩) HX.out.lt).trans (HX.out.cell (k := 7) rfl)
        go_simp
      simp only [Act.put, List.setIfInBounds_toArray, List.set_cons_zero, List.set_cons_succ]
      refine wpAnyH_ready (rs := [4]) (by kernel_rfl) (by simp) ?_
      refine AllReadyH.cons (by simp only [List.getElem?_toArray, List.getElem?_cons_zero, List.getElem?_cons_succ]; rfl) (fun K hK => ?_) AllReadyH.nil
      rw [if_pos (by rfl)]
      go_simp
      go_at_call 20
      refine (HM.out _).mono ?_
      rintro e w4 ⟨rfl, hb4⟩
      have HB4 := hid ((show Below w1.heap.size w1 w1.drew from (Below.refl _ _).drew).trans hb4)
      dsimp only
      refine hK.out _ _ HB4.out (fun _ => ?_)
      clear hK K hb4
      refine wpAnyH_take (i := 5) (v := .slice ad 0 c) (by simp only [List.getElem?_toArray, List.getElem?_cons_zero, List.getElem?_cons_succ]; rfl) (by kernel_rfl) (by kernel_rfl) (by kernel_rfl) (fun _ _ _ h => h) (Or.inl ⟨by rfl, fun W hSw => ?_⟩) (by assumption) ?_
      · clear hSw
        go_simp
      simp only [Act.put, List.setIfInBounds_toArray, List.set_cons_zero, List.set_cons_succ]
      refine wpAnyH_take (i := 6) (v := .slice ad 0 c) (by simp only [List.getElem?_toArray, List.getElem?_cons_zero, List.getElem?_cons_succ]; rfl) (by kernel_rfl) (by kernel_rfl) (by kernel_rfl) (fun _ _ _ h => h) (Or.inl ⟨by rfl, fun W hSw => ?_⟩) (by assumption) ?_
      · clear hSw
        go_simp
      simp only [Act.put, List.setIfInBounds_toArray, List.set_cons_zero, List.set_cons_succ]
      refine wpAnyH_done (by kernel_rfl) ?_ _
      refine NoPanic.normal ?_
      go_wp2
      go_ret
      exact ⟨_, rfl, ⟨⟨_, _, rfl, Nat.zero_le _, fun h => (by rw [HA.out] at h; cases h), fun j u hu => by simp at hu⟩, rfl⟩, HBl.out.trans (HB4.out.mono HBl.out.size)⟩
    · obtain ⟨b, o, rfl⟩ : ∃ b o, ad = some ⟨b, o, none⟩ := by
        obtain ⟨b, o, h | h⟩ := hsome
        · exact ⟨b, o, h⟩
        · exact absurd h.1 he
      have hn1 : ¬ c = P := by omega
      have hn2 : ¬ c - P = 0 := by omega
      have hPI : (P : Int) ≤ (L : Int) := by omega
      have hPTI : (P : Int) + (T : Int) ≤ (L : Int) := by omega
      have hPTc : (P : Int) + (T : Int) ≤ (c : Int) := by omega
      have hPcI : (P : Int) ≤ (c : Int) := by omega
      have hcI : (c : Int) ≤ 9223372036854775807 := by omega
      have hLcI : (L : Int) ≤ (c : Int) := by omega
      have hTI : 0 ≤ (T : Int) := by omega
      have hPTn : P + T - P = T := by omega
      have hs0 : 0 ≤ (P : Int) + (T : Int) := by omega
      have hs1 : ((P : Int) + (T : Int)).toNat = P + T := by omega
      have hPle : P ≤ P + T := by omega
      have HF := hid (And.intro hLc hPT)
      clear hsome hL hLc hcm had hPT hPm hTm he
      go_enter Tryz.func23, Tryz.ntmps23
      go_wp2_with fail
      generalize w.alloc (.cells #[.int .i64 (T : Int), .int .i64 len, .int .i64 off, .int .i64 num, .int .i64 (P : Int), .int .i64 131072, .int .i64 0, .int .i64 0] 57) = w1 at *
      refine wp_region_noPanic ?_
      refine wp_region_held_drew (S := fun W' => Below w1.heap.size w1 W') (by kernel_rfl) (Below.refl _ _).drew (fun hHeld => ?_)
      refine wpAnyH_take (i := 0) (v := .slice (some ⟨b, o, none⟩) L c) (by simp only [List.getElem?_toArray, List.getElem?_cons_zero]; rfl) (by kernel_rfl) (by kernel_rfl) (by kernel_rfl) (fun _ _ _ h => h) (Or.inl ⟨by rfl, fun W hSw => ?_⟩) (by assumption) ?_
      · have hcw := (hSw.cell (p := ⟨q, 0, none⟩) HQ.out.lt).trans (HQ.out.cell (k := 0) rfl)
        go_simp
      simp only [Act.put, List.setIfInBounds_toArray, List.set_cons_zero, List.set_cons_succ]
      refine wpAnyH_take (i := 1) (v := .pointer (some ⟨w.heap.size, 4, none⟩)) (by simp only [List.getElem?_toArray, List.getElem?_cons_zero, List.getElem?_cons_succ]; rfl) (by kernel_rfl) (by kernel_rfl) (by kernel_rfl) (fun _ _ _ h => h) (Or.inl ⟨by rfl, fun W hSw => ?_⟩) (by assumption) ?_
      · clear hSw
        go_simp
      simp only [Act.put, List.setIfInBounds_toArray, List.set_cons_zero, List.set_cons_succ]
      refine wpAnyH_take (i := 2) (v := .int .i64 (P : Int)) (by simp only [List.getElem?_toArray, List.getElem?_cons_zero, List.getElem?_cons_succ]; rfl) (by kernel_rfl) (by kernel_rfl) (by kernel_rfl) (fun _ _ _ h => h) (Or.inl ⟨by rfl, fun W hSw => ?_⟩) (by assumption) ?_
      · have hcw := (hSw.cell (p := ⟨w.heap.size, 4, none⟩) HX.out.lt).trans (HX.out.cell (k := 4) rfl)
        go_simp
      simp only [Act.put, List.setIfInBounds_toArray, List.set_cons_zero, List.set_cons_succ]
      refine wpAnyH_take (i := 3) (v := .agg #[.int .i64 (T : Int), .int .i64 len, .int .i64 off, .int .i64 num, .int .i64 (P : Int), .int .i64 131072, .int .i64 0, .int .i64 0]) (by simp only [List.getElem?_toArray, List.getElem?_cons_zero, List.getElem?_cons_succ]; rfl) (by kernel_rfl) (by kernel_rfl) (by kernel_rfl) (fun _ _ _ h => h) (Or.inl ⟨by rfl, fun W hSw => ?_⟩) (by assumption) ?_
      · have g0 := (hSw.cell (p := ⟨w.heap.size, 0, none⟩) HX.out.lt).trans (HX.out.cell (k := 0) rfl)
        have g1 := (hSw.cell (p := ⟨w.heap.size, 1, none⟩) HX.out.lt).trans (HX.out.cell (k := 1) rfl)
        have g2 := (hSw.cell (p := ⟨w.heap.size, 2, none⟩) HX.out.lt).trans (HX.out.cell (k := 2) rfl)
        have g3 := (hSw.cell (p := ⟨w.heap.size, 3, none⟩) HX.out.lt).trans (HX.out.cell (k := 3) rfl)
        have g4 := (hSw.cell (p := ⟨w.heap.size, 4, none⟩) HX.out.lt).trans (HX.out.cell (k := 4) rfl)
        have g5 := (hSw.cell (p := ⟨w.heap.size, 5, none⟩) HX.out.lt).trans (HX.out.cell (k := 5) rfl)
        have g6 := (hSw.cell (p := ⟨w.heap.size, 6, none⟩) HX.out.lt).trans (HX.out.cell (k := 6) rfl)
        have g7 := (hSw.cell (p := ⟨w.heap.size, 7, none⟩) HX.out.lt).trans (HX.out.cell (k := 7) rfl)
        go_simp
      simp only [Act.put, List.setIfInBounds_toArray, List.set_cons_zero, List.set_cons_succ]
      refine wpAnyH_ready (rs := [4]) (by kernel_rfl) (by simp) ?_
      refine AllReadyH.cons (by simp only [List.getElem?_toArray, List.getElem?_cons_zero, List.getElem?_cons_succ]; rfl) (fun K hK => ?_) AllReadyH.nil
      rw [if_pos (by rfl)]
      go_simp
      go_at_call 20
      refine (HM.out _).mono ?_
      rintro e w4 ⟨rfl, hb4⟩
      have HB4 := hid ((show Below w1.heap.size w1 w1.drew from (Below.refl _ _).drew).trans hb4)
      dsimp only
      refine hK.out _ _ HB4.out (fun _ => ?_)
      clear hK K hb4
      refine wpAnyH_take (i := 5) (v := .slice (some ⟨b, o + P, none⟩) T (c - P)) (by simp only [List.getElem?_toArray, List.getElem?_cons_zero, List.getElem?_cons_succ]; rfl) (by kernel_rfl) (by kernel_rfl) (by kernel_rfl) (fun _ _ _ h => h) (Or.inl ⟨by rfl, fun W hSw => ?_⟩) (by assumption) ?_
      · clear hSw
        go_simp
      simp only [Act.put, List.setIfInBounds_toArray, List.set_cons_zero, List.set_cons_succ]
      refine wpAnyH_take (i := 6) (v := .slice (some ⟨b, o + P, none⟩) T (c - P)) (by simp only [List.getElem?_toArray, List.getElem?_cons_zero, List.getElem?_cons_succ]; rfl) (by kernel_rfl) (by kernel_rfl) (by kernel_rfl) (fun _ _ _ h => h) (Or.inl ⟨by rfl, fun W hSw => ?_⟩) (by assumption) ?_
      · clear hSw
        go_simp
      simp only [Act.put, List.setIfInBounds_toArray, List.set_cons_zero, List.set_cons_succ]
      refine wpAnyH_done (by kernel_rfl) ?_ _
      refine NoPanic.normal ?_
      go_wp2
      go_ret
      refine ⟨_, rfl, ⟨⟨_, _, rfl, by have := HF.out; omega, fun h => (by cases h), ?_⟩, HLen.out⟩, HBl.out.trans (HB4.out.mono HBl.out.size)⟩
      exact ((HC.out.low HBl.out).low (HB4.out.mono (Nat.le_refl _))).part P T
  · obtain rfl : P = c := by omega
    obtain rfl : T = 0 := by omega
    obtain rfl : L = P := by omega
    have hcI : (L : Int) ≤ 1000000 := by omega
    have hL0 : 0 ≤ (L : Int) := by omega
    have HAd := hid had
    clear hL hLc hcm had hPT hPm hTm hlt
    go_enter Tryz.func23, Tryz.ntmps23
    go_wp2_with fail
    generalize w.alloc (.cells #[.int .i64 ((0 : Nat) : Int), .int .i64 len, .int .i64 off, .int .i64 num, .int .i64 (L : Int), .int .i64 131072, .int .i64 0, .int .i64 0] 57) = w1 at *
    refine wp_region_noPanic ?_
    refine wp_region_held_drew (S := fun W' => Below w1.heap.size w1 W') (by kernel_rfl) (Below.refl _ _).drew (fun hHeld => ?_)
    refine wpAnyH_take (i := 0) (v := .slice ad L L) (by simp only [List.getElem?_toArray, List.getElem?_cons_zero]; rfl) (by kernel_rfl) (by kernel_rfl) (by kernel_rfl) (fun _ _ _ h => h) (Or.inl ⟨by rfl, fun W hSw => ?_⟩) (by assumption) ?_
    · have hcw := (hSw.cell (p := ⟨q, 0, none⟩) HQ.out.lt).trans (HQ.out.cell (k := 0) rfl)
      go_simp
    simp only [Act.put, List.setIfInBounds_toArray, List.set_cons_zero, List.set_cons_succ]
    refine wpAnyH_take (i := 1) (v := .pointer (some ⟨w.heap.size, 4, none⟩)) (by simp only [List.getElem?_toArray, List.getElem?_cons_zero, List.getElem?_cons_succ]; rfl) (by kernel_rfl) (by kernel_rfl) (by kernel_rfl) (fun _ _ _ h => h) (Or.inl ⟨by rfl, fun W hSw => ?_⟩) (by assumption) ?_
    · clear hSw
      go_simp
    simp only [Act.put, List.setIfInBounds_toArray, List.set_cons_zero, List.set_cons_succ]
    refine wpAnyH_take (i := 2) (v := .int .i64 (L : Int)) (by simp only [List.getElem?_toArray, List.getElem?_cons_zero, List.getElem?_cons_succ]; rfl) (by kernel_rfl) (by kernel_rfl) (by kernel_rfl) (fun _ _ _ h => h) (Or.inl ⟨by rfl, fun W hSw => ?_⟩) (by assumption) ?_
    · have hcw := (hSw.cell (p := ⟨w.heap.size, 4, none⟩) HX.out.lt).trans (HX.out.cell (k := 4) rfl)
      go_simp
    simp only [Act.put, List.setIfInBounds_toArray, List.set_cons_zero, List.set_cons_succ]
    refine wpAnyH_take (i := 3) (v := .agg #[.int .i64 ((0 : Nat) : Int), .int .i64 len, .int .i64 off, .int .i64 num, .int .i64 (L : Int), .int .i64 131072, .int .i64 0, .int .i64 0]) (by simp only [List.getElem?_toArray, List.getElem?_cons_zero, List.getElem?_cons_succ]; rfl) (by kernel_rfl) (by kernel_rfl) (by kernel_rfl) (fun _ _ _ h => h) (Or.inl ⟨by rfl, fun W hSw => ?_⟩) (by assumption) ?_
    · have g0 := (hSw.cell (p := ⟨w.heap.size, 0, none⟩) HX.out.lt).trans (HX.out.cell (k := 0) rfl)
      have g1 := (hSw.cell (p := ⟨w.heap.size, 1, none⟩) HX.out.lt).trans (HX.out.cell (k := 1) rfl)
      have g2 := (hSw.cell (p := ⟨w.heap.size, 2, none⟩) HX.out.lt).trans (HX.out.cell (k := 2) rfl)
      have g3 := (hSw.cell (p := ⟨w.heap.size, 3, none⟩) HX.out.lt).trans (HX.out.cell (k := 3) rfl)
      have g4 := (hSw.cell (p := ⟨w.heap.size, 4, none⟩) HX.out.lt).trans (HX.out.cell (k := 4) rfl)
      have g5 := (hSw.cell (p := ⟨w.heap.size, 5, none⟩) HX.out.lt).trans (HX.out.cell (k := 5) rfl)
      have g6 := (hSw.cell (p := ⟨w.heap.size, 6, none⟩) HX.out.lt).trans (HX.out.cell (k := 6) rfl)
      have g7 := (hSw.cell (p := ⟨w.heap.size, 7, none⟩) HX.out.lt).trans (HX.out.cell (k := 7) rfl)
      go_simp
    simp only [Act.put, List.setIfInBounds_toArray, List.set_cons_zero, List.set_cons_succ]
    refine wpAnyH_ready (rs := [4]) (by kernel_rfl) (by simp) ?_
    refine AllReadyH.cons (by simp only [List.getElem?_toArray, List.getElem?_cons_zero, List.getElem?_cons_succ]; rfl) (fun K hK => ?_) AllReadyH.nil
    rw [if_pos (by rfl)]
    go_simp
    go_at_call 20
    refine (HM.out _).mono ?_
    rintro e w4 ⟨rfl, hb4⟩
    have HB4 := hid ((show Below w1.heap.size w1 w1.drew from (Below.refl _ _).drew).trans hb4)
    dsimp only
    refine hK.out _ _ HB4.out (fun _ => ?_)
    clear hK K hb4
    refine wpAnyH_take (i := 5) (v := .slice ad 0 0) (by simp only [List.getElem?_toArray, List.getElem?_cons_zero, List.getElem?_cons_succ]; rfl) (by kernel_rfl) (by kernel_rfl) (by kernel_rfl) (fun _ _ _ h => h) (Or.inl ⟨by rfl, fun W hSw => ?_⟩) (by assumption) ?_
    · clear hSw
      go_simp
    simp only [Act.put, List.setIfInBounds_toArray, List.set_cons_zero, List.set_cons_succ]
    refine wpAnyH_take (i := 6) (v := .slice ad 0 0) (by simp only [List.getElem?_toArray, List.getElem?_cons_zero, List.getElem?_cons_succ]; rfl) (by kernel_rfl) (by kernel_rfl) (by kernel_rfl) (fun _ _ _ h => h) (Or.inl ⟨by rfl, fun W hSw => ?_⟩) (by assumption) ?_
    · clear hSw
      go_simp
    simp only [Act.put, List.setIfInBounds_toArray, List.set_cons_zero, List.set_cons_succ]
    refine wpAnyH_done (by kernel_rfl) ?_ _
    refine NoPanic.normal ?_
    go_wp2
    go_ret
    exact ⟨_, rfl, ⟨⟨_, _, rfl, Nat.le_refl _, fun _ => rfl, fun j u hu => by simp at hu⟩, by simp⟩, HBl.out.trans (HB4.out.mono HBl.out.size)⟩
theorem lst_cells {w : World} {a : Option Addr} {l : List Sq} (hc : Cs w a ((lsts 131072 0 0 l).flatMap lstc)) {k : Nat} {s : Sq} (hk : l[k]? = some s) :
    ∃ b o, a = some ⟨b, o, none⟩ ∧ b < w.heap.size ∧ ∀ j, j < 8 → ∀ u, (lstc ⟨s, (k : Nat), lend 0 (l.take k), 131072, 0, 0⟩)[j]? = some u → w.cell? ⟨b, o + k * 8 + j, none⟩ = some u := by
  have hg : (lsts 131072 0 0 l)[k]? = some ⟨s, (k : Nat), lend 0 (l.take k), 131072, 0, 0⟩ := by
    have := lstsGo_get 131072 0 0 l 0 0 k s hk
    rw [Int.zero_add] at this
    exact this
  have hj : ∀ j, j < 8 → ∀ u, (lstc ⟨s, (k : Nat), lend 0 (l.take k), 131072, 0, 0⟩)[j]? = some u → ((lsts 131072 0 0 l).flatMap lstc)[k * 8 + j]? = some u := fun j hj u hu => by
    rw [lst_getc hg j hj]; exact hu
  obtain ⟨b, o, e, hb, _⟩ := hc _ _ (hj 0 (by decide) (.int .i64 s.lit) rfl)
  refine ⟨b, o, e, hb, fun j h8 u hu => ?_⟩
  obtain ⟨b2, o2, e2, _, h2⟩ := hc _ _ (hj j h8 u hu)
  rw [e] at e2
  cases e2
  rw [← Nat.add_assoc] at h2
  exact h2
set_option maxRecDepth 100000 in
set_option maxHeartbeats 4000000 in
theorem ljoined_any (q : Nat) (ad : Option Addr) (c : Nat) (bs : List UInt8) (l : List Sq) (n : Int) (av : Option Addr) (cv : Nat) (w : World) (hl : l.length ≤ 900000) (hlc : l.length ≤ cv) (hcm : bs.length ≤ 1000000 ∧ c ≤ 9223372036854775807) (hLc : bs.length ≤ c) (had : ad = none → c = 0) (hQ : Blk w q [.slice ad bs.length c] 22) (hc : Cs w ad (bs.map bv)) (hp : planEnd 0 l = some n) (hn : n ≤ bs.length) (hs : Cs w av ((lsts 131072 0 0 l).flatMap lstc)) :
    Calls Tryz.prog 22 #[.slice av l.length cv, .func (.func 23) #[] #[.pointer (some ⟨q, 0, none⟩)]] w fun e w' => ∃ v, e = .returned v ∧ w'.ownsRow w.heap.size 5 1 v (litsGo bs 0 l).length ((litsGo bs 0 l).map bv) ∧ Below w.heap.size w w' := by
  have HQ := hid hQ
  have HC := hid hc
  have HS := hid hs
  have HP := hid (And.intro hp hn)
  have HAd := hid had
  have HB3 := hid (And.intro hcm hLc)
  have hlI : (l.length : Int) ≤ 900000 := by omega
  have hlcI : (l.length : Int) ≤ (cv : Int) := by omega
  clear hQ hc hs hp hn had hcm hLc
  go_enter Tryz.func22, Tryz.ntmps22
  go_wp2_with fail
  go_loopw [4, 9] (fun v i wr => ∃ k : Nat, k ≤ l.length ∧ i = .int .i64 (k : Int) ∧ wr.ownsRow w.heap.size 5 1 v (litsGo bs 0 (l.take k)).length ((litsGo bs 0 (l.take k)).map bv) ∧ Below w.heap.size w wr) (fun _ i _ => l.length - (intOf i).toNat)
  case atStart => exact ⟨0, Nat.zero_le _, rfl, World.ownsRow_nil _ _ _ _, Below.refl _ _⟩
  case round =>
    obtain ⟨k, hk, rfl, ho, hb⟩ := hrel
    obtain ⟨ao, co, rfl⟩ := own_slice ho
    have HO := hid ho
    have HB := hid hb
    by_cases hlt : k < l.length
    · obtain ⟨s, hsk⟩ : ∃ s, l[k]? = some s := ⟨l[k], by simp [hlt]⟩
      obtain ⟨b, o, rfl, hbl, hcell⟩ := lst_cells (HS.out.low hb) hsk
      obtain ⟨P, T, hP, hT, hPT⟩ := plan_at HP.out.1 HP.out.2 hsk
      obtain ⟨lit, len, off⟩ := s
      dsimp only at hT
      subst hT
      rw [hP] at hcell
      unfold lstc at hcell
      have y0 := hcell 0 (by decide) _ rfl
      have y1 := hcell 1 (by decide) _ rfl
      have y2 := hcell 2 (by decide) _ rfl
      have y3 := hcell 3 (by decide) _ rfl
      have y4 := hcell 4 (by decide) _ rfl
      have y5 := hcell 5 (by decide) _ rfl
      have y6 := hcell 6 (by decide) _ rfl
      have y7 := hcell 7 (by decide) _ rfl
      rw [Nat.add_zero] at y0
      dsimp only at y0 y1 y2 y3 y4 y5 y6 y7
      have hsn : litsGo bs 0 (l.take (k + 1)) = litsGo bs 0 (l.take k) ++ (bs.drop P).take T := by
        obtain ⟨_, e⟩ := List.getElem?_eq_some_iff.1 hsk
        rw [List.take_succ_eq_append_getElem hlt, litsGo_snoc, e, hP]
        simp
      have hlen := litsGo_len bs (l.take k) 0 _ (planEnd_pre (l.take k) (l.drop k) 0 n (by rw [List.take_append_drop]; exact HP.out.1))
      rw [hP] at hlen
      have hlen2 : (litsGo bs 0 (l.take k)).length ≤ 1000000 := by have := HB3.out; omega
      have HSn := hid hsn
      have HLn := hid hlen2
      have HT := hid hPT
      have HLt := hid hlt
      have hltI : (k : Int) < (l.length : Int) := by omega
      have HNw := hid (Blk.new wr [.int .i64 (T : Int), .int .i64 len, .int .i64 off, .int .i64 (k : Nat), .int .i64 (P : Int), .int .i64 131072, .int .i64 0, .int .i64 0] 57)
      have HBn := hid (below_new wr (.cells #[.int .i64 (T : Int), .int .i64 len, .int .i64 off, .int .i64 (k : Nat), .int .i64 (P : Int), .int .i64 131072, .int .i64 0, .int .i64 0] 57))
      have hP2 : P + T ≤ 131072 ∨ 131072 < P + T := by omega
      have hPm : P ≤ 131072 ∧ T ≤ 131072 := by
        obtain ⟨h1, h2⟩ := lpl_of l 0 n (Int.le_refl _) HP.out.1 (l.take k) ⟨(T : Int), len, off⟩ (l.drop (k + 1)) (by
          obtain ⟨_, e⟩ := List.getElem?_eq_some_iff.1 hsk
          rw [← e, ← List.drop_eq_getElem_cons hlt, List.take_append_drop])
        have h3 := linB_in h1
        simp only [hP] at h3
        omega
      have HPm := hid hPm
      clear hcell hP hPT hsk hsn hlen hlen2 hlt hk ho hb hbl hP2 hPm
      go_wp2_with fail
      clear y0 y1 y2 y3 y4 y5 y6 y7
      generalize wr.alloc (.cells #[.int .i64 (T : Int), .int .i64 len, .int .i64 off, .int .i64 (k : Nat), .int .i64 (P : Int), .int .i64 131072, .int .i64 0, .int .i64 0] 57) = w1 at *
      refine (llit1_any q ad bs.length c bs P T len off (k : Nat) w1 rfl HB3.out.2 HB3.out.1 HAd.out ((HQ.out.below HB.out HQ.out.lt).below HBn.out (Nat.lt_of_lt_of_le HQ.out.lt HB.out.size)) (((HC.out.low HB.out)).low HBn.out) HT.out HPm.out.1 HPm.out.2).mono ?_
      rintro e w2 ⟨v, rfl, hby, hb2⟩
      obtain ⟨a2, c2, rfl, hc2, ha2, hcs2⟩ := hby.ex
      have hln2 := hby.len
      have HB2 := hid (HBn.out.trans (hb2.mono HBn.out.size))
      have HO2 := hid (own_low HO.out HB2.out)
      have HY := hid hcs2
      have HL2 := hid hln2
      clear hb2 hcs2 hln2 hby
      go_wp2_with (at_builtin; refine Hid.out ?_)
      refine hid ?_
      refine wpList_appendsK rfl _ _ 22 rfl 5 _ 1 1 Tryz.underlying22 Tryz.info_u8 rfl (by decide) (by decide) _ w.heap.size _ (litsGo bs 0 (l.take k)).length T c2 a2 ((litsGo bs 0 (l.take k)).map bv) (((bs.drop P).take T).map bv) (by rw [List.length_map, HL2.out]; omega) ?hu rfl rfl hc2 ha2 (by exact HY.out) (by exact HO2.out) ?hn ?hb ?hk
      case hu =>
        intro u hu
        obtain ⟨x, _, rfl⟩ := List.mem_map.1 hu
        rfl
      case hn => have := HLn.out; have := HPm.out; omega
      case hb => exact Nat.le_trans HB.out.size HB2.out.size
      case hk =>
        intro v' w3 hown' hg
        have hbg := below_grown HO2.out hg (Nat.le_trans HB.out.size HB2.out.size)
        rw [← List.map_append, ← HSn.out] at hown'
        have hl3 : (litsGo bs 0 (l.take k)).length + T = (litsGo bs 0 (l.take (k + 1))).length := by rw [HSn.out, List.length_append, HL2.out]
        rw [hl3] at hown'
        have HO3 := hid hown'
        have HB3' := hid ((HB.out.trans (HB2.out.mono HB.out.size)).trans hbg)
        clear hown' hg hbg hl3
        go_wp2
        go_roundw
        case rel => exact ⟨k + 1, by have := HLt.out; omega, by go_num, HO3.out, HB3'.out⟩
        case measure => have := HLt.out; simp [intOf]; omega
    · obtain rfl : k = l.length := by omega
      rw [List.take_of_length_le (Nat.le_refl _)] at HO
      clear ho hb
      rw [List.take_of_length_le (Nat.le_refl _)]
      go_wp2
      go_ret
      exact ⟨_, rfl, HO.out, HB.out⟩
set_option maxRecDepth 100000 in
set_option maxHeartbeats 2000000 in
theorem lliterals_ok (l : List Sq) (a : Option Addr) (cl : Nat) (ad : Option Addr) (c : Nat) (bs : List UInt8) (w : World) (hl : l.length ≤ 900000) (hlc : l.length ≤ cl) (hcl : Cs w a (l.flatMap lsqc)) (hcm : bs.length ≤ 1000000 ∧ c ≤ 9223372036854775807) (hLc : bs.length ≤ c) (had : ad = none → c = 0) (hc : Cs w ad (bs.map bv)) (n : Int) (hp : planEnd 0 l = some n) (hn : n ≤ bs.length) :
    Calls Tryz.prog 8 #[.slice a l.length cl, .slice ad bs.length c] w fun e w' => ∃ v, e = .returned (.tuple #[v, .int .i64 0]) ∧ w'.ownsRow w.heap.size 5 1 v (litsS bs l).length ((litsS bs l).map bv) ∧ Below w.heap.size w w' := by
  have HQ := hid (Blk.new w [.slice ad bs.length c] 22)
  have HB := hid (below_new w (.cells #[.slice ad bs.length c] 22))
  have HS := hid (lsteps_ok l a cl _ hl hlc (hcl.low HB.out) (LPl.of hp))
  have hle := planEnd_some l 0 n hp
  rw [← hle.1] at HS
  obtain ⟨N, rfl⟩ : ∃ N : Nat, n = (N : Int) := ⟨n.toNat, by omega⟩
  have HJ := hid (fun av cv W (hW : Below _ _ W) hlv hs => ljoined_any w.heap.size ad c bs l (N : Int) av cv W hl hlv hcm hLc had (HQ.out.below hW HQ.out.lt) ((hc.low HB.out).low hW) hp hn hs)
  have hE : litsS bs l = litsGo bs 0 l ++ bs.drop N := by unfold litsS; rw [← hle.1, Int.toNat_natCast]
  have HLm := hid (litsS_len hp hn)
  have HE := hid hE
  have HC := hid hc
  have hNI : (N : Int) ≤ (bs.length : Int) := hn
  have hNn : N ≤ bs.length := by omega
  have hcI : (c : Int) ≤ 9223372036854775807 := by omega
  have hLcI : (bs.length : Int) ≤ (c : Int) := by omega
  have t2 : decide ((bs.length : Int) < (N : Int)) = false := by simp; omega
  have t3 : decide (bs.length < N) = false := by simp; omega
  have HAd := hid had
  have HN := hid (And.intro hNn (And.intro hLc hcm))
  clear hcl hp hl hlc had hc hle hE hn hNn
  go_enter Tryz.func8, Tryz.ntmps8
  go_wp2_with fail
  generalize w.alloc (.cells #[.slice ad bs.length c] 22) = w1 at *
  refine HS.out.mono ?_
  rintro e w2 ⟨v, rfl, hown, hb2⟩
  obtain ⟨av, cv, rfl⟩ := own_slice hown
  have hS2 := (Sl.of_owns hown).open
  obtain ⟨a9, c9, e9, hl9, hm9, _, hcs9⟩ := hS2
  cases e9
  have HB2 := hid hb2
  have HQ2 := hid (HQ.out.below hb2 HQ.out.lt)
  have HCs := hid hcs9
  have q0 := HQ2.out.cell (k := 0) rfl
  have HL9 := hid hl9
  clear hown hb2 hcs9 hm9 hl9
  go_wp2_with fail
  clear q0
  refine (HJ.out av cv w2 HB2.out HL9.out HCs.out).mono ?_
  rintro e w3 ⟨v3, rfl, ho3, hb3⟩
  obtain ⟨a3, c3, rfl⟩ := own_slice ho3
  have HO3 := hid ho3
  have HB3 := hid hb3
  have HQ3 := hid (HQ2.out.below hb3 HQ2.out.lt)
  have HC3 := hid (((HC.out.low HB.out).low HB2.out).low HB3.out)
  have HBW := hid (HB.out.trans ((HB2.out.trans (HB3.out.mono HB2.out.size)).mono HB.out.size))
  have q0 := HQ3.out.cell (k := 0) rfl
  clear ho3 hb3
  by_cases hlt : N < c
  · have hsome : (∃ b o, ad = some ⟨b, o, none⟩) ∨ bs = [] := by
      cases bs with
      | nil => exact .inr rfl
      | cons x r =>
        obtain ⟨b, o, e, _⟩ := HC.out 0 (bv x) rfl
        exact .inl ⟨b, o, e⟩
    have hadn : ad ≠ none := fun e => by have := HAd.out e; omega
    obtain ⟨adv, rfl⟩ : ∃ x, ad = some x := by
      cases ad with
      | none => exact absurd rfl hadn
      | some x => exact ⟨x, rfl⟩
    obtain ⟨b9, o9, sp9⟩ := adv
    have hn1 : ¬ c = N := by omega
    have hn2 : ¬ c - N = 0 := by omega
    have hcs : Cs w3 (some ((⟨b9, o9, sp9⟩ : Addr).add N)) ((bs.drop N).map bv) := by
      rcases hsome with ⟨b, o, e⟩ | e
      · cases e
        have := HC3.out.part N (bs.length - N)
        rw [List.take_of_length_le (by simp)] at this
        have hadd : (⟨b9, o9, none⟩ : Addr).add N = ⟨b9, o9 + N, none⟩ := by unfold Addr.add; split <;> simp_all
        rw [hadd]
        exact this
      · subst e
        intro j u hu
        simp at hu
    have hzz : bs = [] → N = 0 := fun e => by have := HN.out.1; subst e; simpa using this
    rcases hsome with ⟨b, o, e⟩ | e
    · cases e
      go_wp2_with (at_builtin; refine Hid.out ?_)
      refine hid ?_
      refine wpList_appendsK rfl _ _ 22 rfl 5 _ 1 1 Tryz.underlying22 Tryz.info_u8 rfl (by decide) (by decide) _ w2.heap.size _ (litsGo bs 0 l).length (bs.length - N) (c - N) (some ⟨b9, o9 + N, none⟩) ((litsGo bs 0 l).map bv) ((bs.drop N).map bv) ?hl ?hu rfl rfl (by have := HN.out; omega) (fun h => by cases h) (by have := hcs; rwa [show (⟨b9, o9, none⟩ : Addr).add N = ⟨b9, o9 + N, none⟩ from by unfold Addr.add; split <;> simp_all] at this) (by exact HO3.out) ?hn ?hb ?hk
      case hu =>
        intro u hu
        first
          | (obtain ⟨x, _, rfl⟩ := List.mem_map.1 hu; rfl)
          | (simp at hu)
      case hl => simp
      case hn => have h1 := HLm.out; have h2 := HN.out; rw [HE.out] at h1; (try simp only [List.length_append, List.length_drop] at h1); omega
      case hb => exact HB3.out.size
      case hk =>
        intro v' w4 hown' hg
        have hbg := below_grown HO3.out hg HB3.out.size
        have HFO := hid (show w4.ownsRow w.heap.size 5 1 v' (litsS bs l).length ((litsS bs l).map bv) from by
          rw [HE.out]
          first
            | (rw [List.map_append, List.length_append, List.length_drop]; exact own_le hown' (Nat.le_trans HB.out.size HB2.out.size))
            | (simp only [List.append_nil, Nat.add_zero] at hown'; exact own_le hown' (Nat.le_trans HB.out.size HB2.out.size)))
        have HFB := hid (HBW.out.trans (((show Below w2.heap.size w3 w4 from hbg)).mono (Nat.le_trans HB.out.size HB2.out.size)))
        clear hown' hg hbg
        obtain ⟨a8, c8, rfl⟩ := own_slice HFO.out
        go_wp2
        go_ret2
        exact ⟨_, rfl, HFO.out, HFB.out⟩
    · subst e
      have hN0 : N = 0 := hzz rfl
      subst hN0
      go_wp2_with (at_builtin; refine Hid.out ?_)
      refine hid ?_
      refine wpList_appendsK rfl _ _ 22 rfl 5 _ 1 1 Tryz.underlying22 Tryz.info_u8 rfl (by decide) (by decide) _ w2.heap.size _ (litsGo [] 0 l).length (0) (c) (some ⟨b9, o9, sp9⟩) ((litsGo [] 0 l).map bv) ([]) ?hl ?hu rfl rfl (Nat.zero_le _) (fun h => by cases h) (fun j u hu => by simp at hu) (by exact HO3.out) ?hn ?hb ?hk
      case hu =>
        intro u hu
        first
          | (obtain ⟨x, _, rfl⟩ := List.mem_map.1 hu; rfl)
          | (simp at hu)
      case hl => simp
      case hn => have h1 := HLm.out; have h2 := HN.out; rw [HE.out] at h1; (try simp only [List.length_append, List.length_drop] at h1); omega
      case hb => exact HB3.out.size
      case hk =>
        intro v' w4 hown' hg
        have hbg := below_grown HO3.out hg HB3.out.size
        have HFO := hid (show w4.ownsRow w.heap.size 5 1 v' (litsS [] l).length ((litsS [] l).map bv) from by
          rw [HE.out]
          first
            | (rw [List.map_append, List.length_append, List.length_drop]; exact own_le hown' (Nat.le_trans HB.out.size HB2.out.size))
            | (simp only [List.append_nil, Nat.add_zero] at hown'; exact own_le hown' (Nat.le_trans HB.out.size HB2.out.size)))
        have HFB := hid (HBW.out.trans (((show Below w2.heap.size w3 w4 from hbg)).mono (Nat.le_trans HB.out.size HB2.out.size)))
        clear hown' hg hbg
        obtain ⟨a8, c8, rfl⟩ := own_slice HFO.out
        go_wp2
        go_ret2
        exact ⟨_, rfl, HFO.out, HFB.out⟩
  · have hcN : c = N := by have := HN.out; omega
    have hbN : bs.length = N := by have := HN.out; omega
    have hdr : bs.drop N = [] := List.eq_nil_of_length_eq_zero (by simp; omega)
    rw [hdr, List.append_nil] at HE
    have HZ := hid (And.intro hcN hbN)
    subst hcN
    go_wp2_with (at_builtin; refine Hid.out ?_)
    refine hid ?_
    refine wpList_appendsK rfl _ _ 22 rfl 5 _ 1 1 Tryz.underlying22 Tryz.info_u8 rfl (by decide) (by decide) _ w2.heap.size _ (litsGo bs 0 l).length (0) (0) (ad) ((litsGo bs 0 l).map bv) ([]) ?hl ?hu rfl rfl (Nat.le_refl _) (fun _ => rfl) (fun j u hu => by simp at hu) (by exact HO3.out) ?hn ?hb ?hk
    case hu =>
      intro u hu
      first
        | (obtain ⟨x, _, rfl⟩ := List.mem_map.1 hu; rfl)
        | (simp at hu)
    case hl => simp
    case hn => have h1 := HLm.out; have h2 := HN.out; rw [HE.out] at h1; (try simp only [List.length_append, List.length_drop] at h1); omega
    case hb => exact HB3.out.size
    case hk =>
      intro v' w4 hown' hg
      have hbg := below_grown HO3.out hg HB3.out.size
      have HFO := hid (show w4.ownsRow w.heap.size 5 1 v' (litsS bs l).length ((litsS bs l).map bv) from by
        rw [HE.out]
        first
          | (rw [List.map_append, List.length_append, List.length_drop]; exact own_le hown' (Nat.le_trans HB.out.size HB2.out.size))
          | (simp only [List.append_nil, Nat.add_zero] at hown'; exact own_le hown' (Nat.le_trans HB.out.size HB2.out.size)))
      have HFB := hid (HBW.out.trans (((show Below w2.heap.size w3 w4 from hbg)).mono (Nat.le_trans HB.out.size HB2.out.size)))
      clear hown' hg hbg
      obtain ⟨a8, c8, rfl⟩ := own_slice HFO.out
      go_wp2
      go_ret2
      exact ⟨_, rfl, HFO.out, HFB.out⟩
/-- Literals, for any plan. -/
def plitsO (bs : List UInt8) (l : List Sq) : Bool := match planEnd 0 l with
  | some n => decide (n ≤ (bs.length : Int))
  | none => false
theorem lliterals_yes (l : List Sq) (a : Option Addr) (cl : Nat) (ad : Option Addr) (c : Nat) (bs : List UInt8) (w : World) (hl : l.length ≤ 900000) (hlc : l.length ≤ cl) (hcl : Cs w a (l.flatMap lsqc)) (hcm : bs.length ≤ 1000000 ∧ c ≤ 9223372036854775807) (hLc : bs.length ≤ c) (had : ad = none → c = 0) (hc : Cs w ad (bs.map bv)) (h : plitsO bs l = true) :
    Calls Tryz.prog 8 #[.slice a l.length cl, .slice ad bs.length c] w fun e w' => ∃ v, e = .returned (.tuple #[v, .int .i64 0]) ∧ w'.ownsRow w.heap.size 5 1 v (litsS bs l).length ((litsS bs l).map bv) ∧ Below w.heap.size w w' := by
  unfold plitsO at h
  cases hp : planEnd 0 l with
  | none => rw [hp] at h; cases h
  | some n =>
    rw [hp] at h
    exact lliterals_ok l a cl ad c bs w hl hlc hcl hcm hLc had hc n hp (by simpa using h)
end Go.Proofs.YtlgablepckmogaaGreat
