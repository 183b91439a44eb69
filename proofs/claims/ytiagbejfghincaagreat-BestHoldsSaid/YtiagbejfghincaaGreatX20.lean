/-
  The walks of reference 32 (price), first part: symbols, Right, New, Symbol, Lits, number, Count, Off, Len, Step.
-/
import Derived.Test.YtiagbejfghincaaGreatX14
import Derived.Test.YtiagbejfghincaaGreatX03
import Derived.Test.YtiagbejfghincaaGreatX06
import Derived.Deep.OwnRows
namespace Go.Proofs.YtiagbejfghincaaGreat
open Go.RowKit Go.Port
set_option maxRecDepth 100000 in
theorem rsymbols_any (i : Nat) (h : i < 4) (w : World) : Calls Tryz.prog 64 #[.int .i64 (i : Int)] w (RetV w (.int .i64 (symN i : Nat))) := by
  have : i = 0 ∨ i = 1 ∨ i = 2 ∨ i = 3 := by omega
  rcases this with rfl | rfl | rfl | rfl
  all_goals
    clear h
    go_enter Tryz.func64, Tryz.ntmps64
    go_wp2
    go_ret
    exact ⟨rfl, below_new w _⟩
set_option maxHeartbeats 400000 in
theorem rright_yes (a : Option Addr) (c : Nat) (l : List Int) (w : World) (hl : l.length ≤ 256) (hcnt : ∀ x ∈ l, Cnt x) (hc : Cs w a (l.map iv)) :
    Calls Tryz.prog 63 #[.slice a l.length c] w fun e w' => e = .returned (.bool true) ∧ w = w' := by
  have HC := hid hc
  have HN := hid hcnt
  have hlI : (l.length : Int) ≤ 256 := by omega
  clear hc hcnt
  go_enter Tryz.func63, Tryz.ntmps63
  go_wp2
  go_loop [3] (fun i => ∃ k : Nat, k ≤ l.length ∧ i = .int .i64 (k : Int)) (fun i => l.length - (intOf i).toNat)
  case atStart => exact ⟨0, Nat.zero_le _, rfl⟩
  case round =>
    obtain ⟨k, hk, rfl⟩ := hrel
    by_cases hlt : k < l.length
    · obtain ⟨x, hx⟩ : ∃ x, l[k]? = some x := ⟨l[k], by simp [hlt]⟩
      obtain ⟨b, off, rfl, _, hcell⟩ := HC.out k (iv x) (by simp [hx])
      have hX := HN.out x (List.mem_of_getElem? hx)
      unfold Cnt at hX
      obtain ⟨hx0, hx1⟩ := hX
      have t1 : decide (x < 0) = false := by simp; omega
      have t2 : decide (2147483648 < x) = false := by simp; omega
      clear hx
      unfold iv at hcell
      go_wp2
      go_round
      case rel => exact ⟨k + 1, by omega, by go_num⟩
      case measure => simp [intOf]; omega
    · obtain rfl : k = l.length := by omega
      go_wp2
      go_ret
      exact ⟨rfl, rfl⟩
set_option maxHeartbeats 400000 in
theorem rright_no (a : Option Addr) (c : Nat) (l : List Int) (w : World) (h : ¬ (l.length ≤ 256 ∧ ∀ x ∈ l, Cnt x)) (hlm : l.length ≤ maxLen) (hc : Cs w a (l.map iv)) :
    Calls Tryz.prog 63 #[.slice a l.length c] w fun e w' => e = .returned (.bool false) ∧ w = w' := by
  have HC := hid hc
  unfold maxLen at hlm
  by_cases hl : l.length ≤ 256
  · have HN := hid (fun hh => h ⟨hl, hh⟩)
    have hlI : (l.length : Int) ≤ 256 := by omega
    clear hc h
    go_enter Tryz.func63, Tryz.ntmps63
    go_wp2
    go_loop [3] (fun i => ∃ k : Nat, k ≤ l.length ∧ i = .int .i64 (k : Int) ∧ Hid (∀ x ∈ l.take k, Cnt x)) (fun i => l.length - (intOf i).toNat)
    case atStart => exact ⟨0, Nat.zero_le _, rfl, hid (fun x hx => by simp at hx)⟩
    case round =>
      obtain ⟨k, hk, rfl, HT⟩ := hrel
      by_cases hlt : k < l.length
      · obtain ⟨x, hx⟩ : ∃ x, l[k]? = some x := ⟨l[k], by simp [hlt]⟩
        obtain ⟨b, off, rfl, _, hcell⟩ := HC.out k (iv x) (by simp [hx])
        have HX := hid hx
        clear hx
        unfold iv at hcell
        by_cases hX : Cnt x
        · have HXc := hid hX
          unfold Cnt at hX
          obtain ⟨hx0, hx1⟩ := hX
          have t1 : decide (x < 0) = false := by simp; omega
          have t2 : decide (2147483648 < x) = false := by simp; omega
          go_wp2
          go_round
          case rel =>
            refine ⟨k + 1, by omega, by go_num, hid (fun y hy => ?_)⟩
            rw [List.take_succ_eq_append_getElem hlt] at hy
            rcases List.mem_append.1 hy with h1 | h1
            · exact HT.out y h1
            · simp only [List.mem_singleton] at h1
              obtain ⟨_, h2⟩ := List.getElem?_eq_some_iff.1 HX.out
              rw [h1, h2]; exact HXc.out
          case measure => simp [intOf]; omega
        · unfold Cnt at hX
          by_cases h0 : x < 0
          · have t1 : decide (x < 0) = true := decide_eq_true h0
            clear hX
            go_wp2
            go_ret
            exact ⟨rfl, rfl⟩
          · have t1 : decide (x < 0) = false := decide_eq_false h0
            have t2 : 2147483648 < x := by omega
            clear hX
            go_wp2
            go_ret
            exact ⟨rfl, rfl⟩
      · obtain rfl : k = l.length := by omega
        have := HT.out
        rw [List.take_of_length_le (Nat.le_refl _)] at this
        exact absurd this HN.out
  · have hlI : 256 < (l.length : Int) := by omega
    clear hc h hl
    go_enter Tryz.func63, Tryz.ntmps63
    go_wp2
    go_ret
    exact ⟨rfl, rfl⟩
/-- The slices as a list. -/
def fourL (A : Nat → Option Addr) (cp : Nat → Nat) (C : Nat → List Int) (k : Nat) : Value := .slice (A k) (C k).length (cp k)
theorem fourL_at (A : Nat → Option Addr) (cp : Nat → Nat) (C : Nat → List Int) (j : Nat) (hj : j < 4) : ([.slice (A 0) (C 0).length (cp 0), .slice (A 1) (C 1).length (cp 1), .slice (A 2) (C 2).length (cp 2), .slice (A 3) (C 3).length (cp 3)] : List Value)[j]? = some (.slice (A j) (C j).length (cp j)) := get_four (fourL A cp C) j hj
set_option maxRecDepth 100000 in
set_option maxHeartbeats 4000000 in
theorem rpri_ok (A : Nat → Option Addr) (cp : Nat → Nat) (C : Nat → List Int) (w : World) (h : FourAt w A cp C) (hok :  ∀ k, k < 4 → HistOk k (C k)) :
    Calls Tryz.prog 31 #[fourV A cp C] w (RetV w (.tuple #[fourV A cp C, .int .i64 0])) := by
  have HH := hid h
  have HOk := hid hok
  clear h hok
  have HB0 := hid (show Blk ((w.alloc (.cells #[.slice (A 0) (C 0).length (cp 0), .slice (A 1) (C 1).length (cp 1), .slice (A 2) (C 2).length (cp 2), .slice (A 3) (C 3).length (cp 3)] 24)).alloc (.cells #[.slice none 0 0, .slice none 0 0, .slice none 0 0, .slice none 0 0] 32)) w.heap.size [.slice (A 0) (C 0).length (cp 0), .slice (A 1) (C 1).length (cp 1), .slice (A 2) (C 2).length (cp 2), .slice (A 3) (C 3).length (cp 3)] 24 from (Blk.newAt rfl).alloc _)
  have HB1 := hid (show Blk ((w.alloc (.cells #[.slice (A 0) (C 0).length (cp 0), .slice (A 1) (C 1).length (cp 1), .slice (A 2) (C 2).length (cp 2), .slice (A 3) (C 3).length (cp 3)] 24)).alloc (.cells #[.slice none 0 0, .slice none 0 0, .slice none 0 0, .slice none 0 0] 32)) (w.heap.size + 1) [.slice none 0 0, .slice none 0 0, .slice none 0 0, .slice none 0 0] 32 from Blk.newAt (by simp))
  have HBl := hid (show Below w.heap.size w ((w.alloc (.cells #[.slice (A 0) (C 0).length (cp 0), .slice (A 1) (C 1).length (cp 1), .slice (A 2) (C 2).length (cp 2), .slice (A 3) (C 3).length (cp 3)] 24)).alloc (.cells #[.slice none 0 0, .slice none 0 0, .slice none 0 0, .slice none 0 0] 32)) from (below_new w _).alloc (by simp) _)
  unfold fourV
  go_enter Tryz.func31, Tryz.ntmps31
  go_wp2_with fail
  generalize (w.alloc (.cells #[.slice (A 0) (C 0).length (cp 0), .slice (A 1) (C 1).length (cp 1), .slice (A 2) (C 2).length (cp 2), .slice (A 3) (C 3).length (cp 3)] 24)).alloc (.cells #[.slice none 0 0, .slice none 0 0, .slice none 0 0, .slice none 0 0] 32) = w1 at *
  go_loopw [4] (fun i wr => ∃ j : Nat, j ≤ 4 ∧ i = .int .i64 (j : Int) ∧ Hid (∀ k, k < j → HistOk k (C k)) ∧ Below w.heap.size w wr ∧ Blk wr w.heap.size [.slice (A 0) (C 0).length (cp 0), .slice (A 1) (C 1).length (cp 1), .slice (A 2) (C 2).length (cp 2), .slice (A 3) (C 3).length (cp 3)] 24 ∧ Blk wr (w.heap.size + 1) [.slice none 0 0, .slice none 0 0, .slice none 0 0, .slice none 0 0] 32) (fun i _ => 4 - (intOf i).toNat)
  case atStart => exact ⟨0, by omega, rfl, hid (fun k hk => absurd hk (Nat.not_lt_zero k)), HBl.out, HB0.out, HB1.out⟩
  case round =>
    obtain ⟨j, hj, rfl, HJ, hbl, hb0, hb1⟩ := hrel
    have HL := hid hbl
    have H0 := hid hb0
    have H1 := hid hb1
    clear hbl hb0 hb1
    by_cases hlt : j < 4
    · have HLt := hid hlt
      have hltI : (j : Int) < 4 := by omega
      have c0 := H0.out.cell (fourL_at A cp C j hlt)
      clear hj hlt
      go_wp2_with fail
      have HOj := hid (HOk.out j HLt.out)
      have HY := hid (show (C j).length ≤ 256 ∧ ∀ x ∈ C j, Cnt x from ⟨Nat.le_trans HOj.out.1 (symN_le j).1, HOj.out.2⟩)
      have HR := hid (fun W (hb : Below w.heap.size w W) => rright_yes (A j) (cp j) (C j) W HY.out.1 HY.out.2 ((HH.out.low hb).cells j HLt.out))
      have hle : decide ((symN j : Int) < ((C j).length : Int)) = false := by have := HOj.out.1; simp; omega
      have hle2 : decide (symN j < (C j).length) = false := by have := HOj.out.1; simp; omega
      refine wp_region_noPanic ?_
      refine wp_region_held_drew (S := fun W' => Below wr.heap.size wr W') (by kernel_rfl) (Below.refl _ _).drew (fun hHeld => ?_)
      refine wpAnyH_take (i := 0) (v := .int .i64 (j : Int)) (by simp only [List.getElem?_toArray, List.getElem?_cons_zero]; rfl) (by kernel_rfl) (by kernel_rfl) (by kernel_rfl) (fun _ _ _ h => h) (Or.inl ⟨by rfl, fun W hSw => ?_⟩) (by assumption) ?_
      · clear hSw
        go_simp
      simp only [Act.put, List.setIfInBounds_toArray, List.set_cons_zero, List.set_cons_succ]
      refine wpAnyH_take (i := 1) (v := .pointer (some ⟨w.heap.size, j, none⟩)) (by simp only [List.getElem?_toArray, List.getElem?_cons_zero, List.getElem?_cons_succ]; rfl) (by kernel_rfl) (by kernel_rfl) (by kernel_rfl) (fun _ _ _ h => h) (Or.inl ⟨by rfl, fun W hSw => ?_⟩) (by assumption) ?_
      · clear hSw
        go_simp
      simp only [Act.put, List.setIfInBounds_toArray, List.set_cons_zero, List.set_cons_succ]
      refine wpAnyH_take (i := 2) (v := .slice (A j) (C j).length (cp j)) (by simp only [List.getElem?_toArray, List.getElem?_cons_zero, List.getElem?_cons_succ]; rfl) (by kernel_rfl) (by kernel_rfl) (by kernel_rfl) (fun _ _ _ h => h) (Or.inl ⟨by rfl, fun W hSw => ?_⟩) (by assumption) ?_
      · have hcw := (hSw.cell (p := ⟨w.heap.size, j, none⟩) H0.out.lt).trans (H0.out.cell (fourL_at A cp C j HLt.out))
        go_simp
      simp only [Act.put, List.setIfInBounds_toArray, List.set_cons_zero, List.set_cons_succ]
      refine wpAnyH_ready (rs := [3]) (by kernel_rfl) (by simp) ?_
      refine AllReadyH.cons (by simp only [List.getElem?_toArray, List.getElem?_cons_zero, List.getElem?_cons_succ]; rfl) (fun K hK => ?_) AllReadyH.nil
      rw [if_pos (by rfl)]
      go_simp
      go_at_call 63
      refine (HR.out _ (HL.out.trans ((Below.refl _ _).drew.mono HL.out.size))).mono ?_
      rintro e w' ⟨rfl, rfl⟩
      dsimp only
      refine hK.out _ _ (Below.refl _ _).drew (fun _ => ?_)
      clear hK K
      refine wpAnyH_take (i := 4) (v := .bool false) (by simp only [List.getElem?_toArray, List.getElem?_cons_zero, List.getElem?_cons_succ]; rfl) (by kernel_rfl) (by kernel_rfl) (by kernel_rfl) (fun _ _ _ h => h) (Or.inl ⟨by rfl, fun W hSw => ?_⟩) (by assumption) ?_
      · clear hSw
        go_simp
      simp only [Act.put, List.setIfInBounds_toArray, List.set_cons_zero, List.set_cons_succ]
      refine wpAnyH_take (i := 5) (v := .bool false) (by simp only [List.getElem?_toArray, List.getElem?_cons_zero, List.getElem?_cons_succ]; rfl) (by kernel_rfl) (by kernel_rfl) (by kernel_rfl) (fun _ _ _ h => h) (Or.inl ⟨by rfl, fun W hSw => ?_⟩) (by assumption) ?_
      · clear hSw
        go_simp
      simp only [Act.put, List.setIfInBounds_toArray, List.set_cons_zero, List.set_cons_succ]
      refine wpAnyH_take (i := 6) (v := .int .i64 (j : Int)) (by simp only [List.getElem?_toArray, List.getElem?_cons_zero, List.getElem?_cons_succ]; rfl) (by kernel_rfl) (by kernel_rfl) (by kernel_rfl) (fun _ _ _ h => h) (Or.inl ⟨by rfl, fun W hSw => ?_⟩) (by assumption) ?_
      · clear hSw
        go_simp
      simp only [Act.put, List.setIfInBounds_toArray, List.set_cons_zero, List.set_cons_succ]
      refine wpAnyH_take (i := 7) (v := .pointer (some ⟨w.heap.size, j, none⟩)) (by simp only [List.getElem?_toArray, List.getElem?_cons_zero, List.getElem?_cons_succ]; rfl) (by kernel_rfl) (by kernel_rfl) (by kernel_rfl) (fun _ _ _ h => h) (Or.inl ⟨by rfl, fun W hSw => ?_⟩) (by assumption) ?_
      · clear hSw
        go_simp
      simp only [Act.put, List.setIfInBounds_toArray, List.set_cons_zero, List.set_cons_succ]
      refine wpAnyH_take (i := 8) (v := .slice (A j) (C j).length (cp j)) (by simp only [List.getElem?_toArray, List.getElem?_cons_zero, List.getElem?_cons_succ]; rfl) (by kernel_rfl) (by kernel_rfl) (by kernel_rfl) (fun _ _ _ h => h) (Or.inl ⟨by rfl, fun W hSw => ?_⟩) (by assumption) ?_
      · have hcw := (hSw.cell (p := ⟨w.heap.size, j, none⟩) H0.out.lt).trans (H0.out.cell (fourL_at A cp C j HLt.out))
        go_simp
      simp only [Act.put, List.setIfInBounds_toArray, List.set_cons_zero, List.set_cons_succ]
      refine wpAnyH_take (i := 9) (v := .int .i64 ((C j).length : Int)) (by simp only [List.getElem?_toArray, List.getElem?_cons_zero, List.getElem?_cons_succ]; rfl) (by kernel_rfl) (by kernel_rfl) (by kernel_rfl) (fun _ _ _ h => h) (Or.inl ⟨by rfl, fun W hSw => ?_⟩) (by assumption) ?_
      · clear hSw
        go_simp
      simp only [Act.put, List.setIfInBounds_toArray, List.set_cons_zero, List.set_cons_succ]
      refine wpAnyH_take (i := 10) (v := .int .i64 (j : Int)) (by simp only [List.getElem?_toArray, List.getElem?_cons_zero, List.getElem?_cons_succ]; rfl) (by kernel_rfl) (by kernel_rfl) (by kernel_rfl) (fun _ _ _ h => h) (Or.inl ⟨by rfl, fun W hSw => ?_⟩) (by assumption) ?_
      · clear hSw
        go_simp
      simp only [Act.put, List.setIfInBounds_toArray, List.set_cons_zero, List.set_cons_succ]
      refine wpAnyH_ready (rs := [11]) (by kernel_rfl) (by simp) ?_
      refine AllReadyH.cons (by simp only [List.getElem?_toArray, List.getElem?_cons_zero, List.getElem?_cons_succ]; rfl) (fun K hK => ?_) AllReadyH.nil
      rw [if_pos (by rfl)]
      go_simp
      go_at_call 64
      refine (rsymbols_any j HLt.out _).mono ?_
      rintro e w4 ⟨rfl, hb4⟩
      have HB4 := hid ((show Below wr.heap.size wr wr.drew from (Below.refl _ _).drew).trans hb4)
      dsimp only
      refine hK.out _ _ HB4.out (fun _ => ?_)
      clear hK K hb4
      refine wpAnyH_take (i := 12) (v := .bool false) (by simp only [List.getElem?_toArray, List.getElem?_cons_zero, List.getElem?_cons_succ]; rfl) (by kernel_rfl) (by kernel_rfl) (by kernel_rfl) (fun _ _ _ h => h) (Or.inl ⟨by rfl, fun W hSw => ?_⟩) (by assumption) ?_
      · clear hSw
        go_simp
      simp only [Act.put, List.setIfInBounds_toArray, List.set_cons_zero, List.set_cons_succ]
      refine wpAnyH_take (i := 13) (v := .bool false) (by simp only [List.getElem?_toArray, List.getElem?_cons_zero, List.getElem?_cons_succ]; rfl) (by kernel_rfl) (by kernel_rfl) (by kernel_rfl) (fun _ _ _ h => h) (Or.inl ⟨by rfl, fun W hSw => ?_⟩) (by assumption) ?_
      · clear hSw
        go_simp
      simp only [Act.put, List.setIfInBounds_toArray, List.set_cons_zero, List.set_cons_succ]
      refine wpAnyH_done (by kernel_rfl) ?_ _
      refine NoPanic.normal ?_
      clear c0
      go_wp2_with fail
      go_roundw
      case rel => exact ⟨j + 1, by have := HLt.out; omega, by go_num, hid (fun k hk => by
        by_cases e : k = j
        · rw [e]; exact HOj.out
        · exact HJ.out k (by omega)), HL.out.trans (HB4.out.mono HL.out.size), H0.out.below HB4.out H0.out.lt, H1.out.below HB4.out H1.out.lt⟩
      case measure => have := HLt.out; simp [intOf]; omega
    · obtain rfl : j = 4 := by omega
      have c0 := H0.out.cell (k := 0) rfl
      have c1 := H0.out.cell (k := 1) rfl
      have c2 := H0.out.cell (k := 2) rfl
      have c3 := H0.out.cell (k := 3) rfl
      have d0 := H1.out.cell (k := 0) rfl
      have d1 := H1.out.cell (k := 1) rfl
      have d2 := H1.out.cell (k := 2) rfl
      have d3 := H1.out.cell (k := 3) rfl
      have z0 := H1.out.frozen 0
      have z1 := H1.out.frozen 1
      have z2 := H1.out.frozen 2
      have z3 := H1.out.frozen 3
      have HN9 := hid (show Blk ((((wr.setCell ⟨w.heap.size + 1, 0, none⟩ (.slice (A 0) (C 0).length (cp 0))).setCell ⟨w.heap.size + 1, 1, none⟩ (.slice (A 1) (C 1).length (cp 1))).setCell ⟨w.heap.size + 1, 2, none⟩ (.slice (A 2) (C 2).length (cp 2))).setCell ⟨w.heap.size + 1, 3, none⟩ (.slice (A 3) (C 3).length (cp 3))) (w.heap.size + 1) [.slice (A 0) (C 0).length (cp 0), .slice (A 1) (C 1).length (cp 1), .slice (A 2) (C 2).length (cp 2), .slice (A 3) (C 3).length (cp 3)] 32 from ((((H1.out.set 0 (.slice (A 0) (C 0).length (cp 0))).set 1 (.slice (A 1) (C 1).length (cp 1))).set 2 (.slice (A 2) (C 2).length (cp 2))).set 3 (.slice (A 3) (C 3).length (cp 3))))
      have HB9 := hid ((((HL.out.setCell (p := ⟨w.heap.size + 1, 0, none⟩) (by simp) (.slice (A 0) (C 0).length (cp 0))).setCell (p := ⟨w.heap.size + 1, 1, none⟩) (by simp) (.slice (A 1) (C 1).length (cp 1))).setCell (p := ⟨w.heap.size + 1, 2, none⟩) (by simp) (.slice (A 2) (C 2).length (cp 2))).setCell (p := ⟨w.heap.size + 1, 3, none⟩) (by simp) (.slice (A 3) (C 3).length (cp 3)))
      go_wp2_with fail
      generalize ((((wr.setCell ⟨w.heap.size + 1, 0, none⟩ (.slice (A 0) (C 0).length (cp 0))).setCell ⟨w.heap.size + 1, 1, none⟩ (.slice (A 1) (C 1).length (cp 1))).setCell ⟨w.heap.size + 1, 2, none⟩ (.slice (A 2) (C 2).length (cp 2))).setCell ⟨w.heap.size + 1, 3, none⟩ (.slice (A 3) (C 3).length (cp 3))) = w9 at *
      have q0 := HN9.out.cell (k := 0) rfl
      have q1 := HN9.out.cell (k := 1) rfl
      have q2 := HN9.out.cell (k := 2) rfl
      have q3 := HN9.out.cell (k := 3) rfl
      refine bodyPost_ret (v := .tuple #[.agg #[.slice (A 0) (C 0).length (cp 0), .slice (A 1) (C 1).length (cp 1), .slice (A 2) (C 2).length (cp 2), .slice (A 3) (C 3).length (cp 3)], .int .i64 0]) (by simp [results, Tryz.results31, go_sem, q0, q1, q2, q3]) rfl ?_
      exact ⟨rfl, HB9.out⟩
set_option maxRecDepth 100000 in
set_option maxHeartbeats 4000000 in
theorem rpri_bad (A : Nat → Option Addr) (cp : Nat → Nat) (C : Nat → List Int) (w : World) (h : FourAt w A cp C) (hok : ¬ ∀ k, k < 4 → HistOk k (C k)) :
    Calls Tryz.prog 31 #[fourV A cp C] w (RetV w (.tuple #[.agg #[.slice none 0 0, .slice none 0 0, .slice none 0 0, .slice none 0 0], .int .i64 2])) := by
  have HH := hid h
  have HOk := hid hok
  clear h hok
  have HB0 := hid (show Blk ((w.alloc (.cells #[.slice (A 0) (C 0).length (cp 0), .slice (A 1) (C 1).length (cp 1), .slice (A 2) (C 2).length (cp 2), .slice (A 3) (C 3).length (cp 3)] 24)).alloc (.cells #[.slice none 0 0, .slice none 0 0, .slice none 0 0, .slice none 0 0] 32)) w.heap.size [.slice (A 0) (C 0).length (cp 0), .slice (A 1) (C 1).length (cp 1), .slice (A 2) (C 2).length (cp 2), .slice (A 3) (C 3).length (cp 3)] 24 from (Blk.newAt rfl).alloc _)
  have HB1 := hid (show Blk ((w.alloc (.cells #[.slice (A 0) (C 0).length (cp 0), .slice (A 1) (C 1).length (cp 1), .slice (A 2) (C 2).length (cp 2), .slice (A 3) (C 3).length (cp 3)] 24)).alloc (.cells #[.slice none 0 0, .slice none 0 0, .slice none 0 0, .slice none 0 0] 32)) (w.heap.size + 1) [.slice none 0 0, .slice none 0 0, .slice none 0 0, .slice none 0 0] 32 from Blk.newAt (by simp))
  have HBl := hid (show Below w.heap.size w ((w.alloc (.cells #[.slice (A 0) (C 0).length (cp 0), .slice (A 1) (C 1).length (cp 1), .slice (A 2) (C 2).length (cp 2), .slice (A 3) (C 3).length (cp 3)] 24)).alloc (.cells #[.slice none 0 0, .slice none 0 0, .slice none 0 0, .slice none 0 0] 32)) from (below_new w _).alloc (by simp) _)
  unfold fourV
  go_enter Tryz.func31, Tryz.ntmps31
  go_wp2_with fail
  generalize (w.alloc (.cells #[.slice (A 0) (C 0).length (cp 0), .slice (A 1) (C 1).length (cp 1), .slice (A 2) (C 2).length (cp 2), .slice (A 3) (C 3).length (cp 3)] 24)).alloc (.cells #[.slice none 0 0, .slice none 0 0, .slice none 0 0, .slice none 0 0] 32) = w1 at *
  go_loopw [4] (fun i wr => ∃ j : Nat, j ≤ 4 ∧ i = .int .i64 (j : Int) ∧ Hid (∀ k, k < j → HistOk k (C k)) ∧ Below w.heap.size w wr ∧ Blk wr w.heap.size [.slice (A 0) (C 0).length (cp 0), .slice (A 1) (C 1).length (cp 1), .slice (A 2) (C 2).length (cp 2), .slice (A 3) (C 3).length (cp 3)] 24 ∧ Blk wr (w.heap.size + 1) [.slice none 0 0, .slice none 0 0, .slice none 0 0, .slice none 0 0] 32) (fun i _ => 4 - (intOf i).toNat)
  case atStart => exact ⟨0, by omega, rfl, hid (fun k hk => absurd hk (Nat.not_lt_zero k)), HBl.out, HB0.out, HB1.out⟩
  case round =>
    obtain ⟨j, hj, rfl, HJ, hbl, hb0, hb1⟩ := hrel
    have HL := hid hbl
    have H0 := hid hb0
    have H1 := hid hb1
    clear hbl hb0 hb1
    by_cases hlt : j < 4
    · have HLt := hid hlt
      have hltI : (j : Int) < 4 := by omega
      have c0 := H0.out.cell (fourL_at A cp C j hlt)
      clear hj hlt
      go_wp2_with fail
      by_cases hok : HistOk j (C j)
      · have HOj := hid (hok)
        clear hok
        have HY := hid (show (C j).length ≤ 256 ∧ ∀ x ∈ C j, Cnt x from ⟨Nat.le_trans HOj.out.1 (symN_le j).1, HOj.out.2⟩)
        have HR := hid (fun W (hb : Below w.heap.size w W) => rright_yes (A j) (cp j) (C j) W HY.out.1 HY.out.2 ((HH.out.low hb).cells j HLt.out))
        have hle : decide ((symN j : Int) < ((C j).length : Int)) = false := by have := HOj.out.1; simp; omega
        have hle2 : decide (symN j < (C j).length) = false := by have := HOj.out.1; simp; omega
        refine wp_region_noPanic ?_
        refine wp_region_held_drew (S := fun W' => Below wr.heap.size wr W') (by kernel_rfl) (Below.refl _ _).drew (fun hHeld => ?_)
        refine wpAnyH_take (i := 0) (v := .int .i64 (j : Int)) (by simp only [List.getElem?_toArray, List.getElem?_cons_zero]; rfl) (by kernel_rfl) (by kernel_rfl) (by kernel_rfl) (fun _ _ _ h => h) (Or.inl ⟨by rfl, fun W hSw => ?_⟩) (by assumption) ?_
        · clear hSw
          go_simp
        simp only [Act.put, List.setIfInBounds_toArray, List.set_cons_zero, List.set_cons_succ]
        refine wpAnyH_take (i := 1) (v := .pointer (some ⟨w.heap.size, j, none⟩)) (by simp only [List.getElem?_toArray, List.getElem?_cons_zero, List.getElem?_cons_succ]; rfl) (by kernel_rfl) (by kernel_rfl) (by kernel_rfl) (fun _ _ _ h => h) (Or.inl ⟨by rfl, fun W hSw => ?_⟩) (by assumption) ?_
        · clear hSw
          go_simp
        simp only [Act.put, List.setIfInBounds_toArray, List.set_cons_zero, List.set_cons_succ]
        refine wpAnyH_take (i := 2) (v := .slice (A j) (C j).length (cp j)) (by simp only [List.getElem?_toArray, List.getElem?_cons_zero, List.getElem?_cons_succ]; rfl) (by kernel_rfl) (by kernel_rfl) (by kernel_rfl) (fun _ _ _ h => h) (Or.inl ⟨by rfl, fun W hSw => ?_⟩) (by assumption) ?_
        · have hcw := (hSw.cell (p := ⟨w.heap.size, j, none⟩) H0.out.lt).trans (H0.out.cell (fourL_at A cp C j HLt.out))
          go_simp
        simp only [Act.put, List.setIfInBounds_toArray, List.set_cons_zero, List.set_cons_succ]
        refine wpAnyH_ready (rs := [3]) (by kernel_rfl) (by simp) ?_
        refine AllReadyH.cons (by simp only [List.getElem?_toArray, List.getElem?_cons_zero, List.getElem?_cons_succ]; rfl) (fun K hK => ?_) AllReadyH.nil
        rw [if_pos (by rfl)]
        go_simp
        go_at_call 63
        refine (HR.out _ (HL.out.trans ((Below.refl _ _).drew.mono HL.out.size))).mono ?_
        rintro e w' ⟨rfl, rfl⟩
        dsimp only
        refine hK.out _ _ (Below.refl _ _).drew (fun _ => ?_)
        clear hK K
        refine wpAnyH_take (i := 4) (v := .bool false) (by simp only [List.getElem?_toArray, List.getElem?_cons_zero, List.getElem?_cons_succ]; rfl) (by kernel_rfl) (by kernel_rfl) (by kernel_rfl) (fun _ _ _ h => h) (Or.inl ⟨by rfl, fun W hSw => ?_⟩) (by assumption) ?_
        · clear hSw
          go_simp
        simp only [Act.put, List.setIfInBounds_toArray, List.set_cons_zero, List.set_cons_succ]
        refine wpAnyH_take (i := 5) (v := .bool false) (by simp only [List.getElem?_toArray, List.getElem?_cons_zero, List.getElem?_cons_succ]; rfl) (by kernel_rfl) (by kernel_rfl) (by kernel_rfl) (fun _ _ _ h => h) (Or.inl ⟨by rfl, fun W hSw => ?_⟩) (by assumption) ?_
        · clear hSw
          go_simp
        simp only [Act.put, List.setIfInBounds_toArray, List.set_cons_zero, List.set_cons_succ]
        refine wpAnyH_take (i := 6) (v := .int .i64 (j : Int)) (by simp only [List.getElem?_toArray, List.getElem?_cons_zero, List.getElem?_cons_succ]; rfl) (by kernel_rfl) (by kernel_rfl) (by kernel_rfl) (fun _ _ _ h => h) (Or.inl ⟨by rfl, fun W hSw => ?_⟩) (by assumption) ?_
        · clear hSw
          go_simp
        simp only [Act.put, List.setIfInBounds_toArray, List.set_cons_zero, List.set_cons_succ]
        refine wpAnyH_take (i := 7) (v := .pointer (some ⟨w.heap.size, j, none⟩)) (by simp only [List.getElem?_toArray, List.getElem?_cons_zero, List.getElem?_cons_succ]; rfl) (by kernel_rfl) (by kernel_rfl) (by kernel_rfl) (fun _ _ _ h => h) (Or.inl ⟨by rfl, fun W hSw => ?_⟩) (by assumption) ?_
        · clear hSw
          go_simp
        simp only [Act.put, List.setIfInBounds_toArray, List.set_cons_zero, List.set_cons_succ]
        refine wpAnyH_take (i := 8) (v := .slice (A j) (C j).length (cp j)) (by simp only [List.getElem?_toArray, List.getElem?_cons_zero, List.getElem?_cons_succ]; rfl) (by kernel_rfl) (by kernel_rfl) (by kernel_rfl) (fun _ _ _ h => h) (Or.inl ⟨by rfl, fun W hSw => ?_⟩) (by assumption) ?_
        · have hcw := (hSw.cell (p := ⟨w.heap.size, j, none⟩) H0.out.lt).trans (H0.out.cell (fourL_at A cp C j HLt.out))
          go_simp
        simp only [Act.put, List.setIfInBounds_toArray, List.set_cons_zero, List.set_cons_succ]
        refine wpAnyH_take (i := 9) (v := .int .i64 ((C j).length : Int)) (by simp only [List.getElem?_toArray, List.getElem?_cons_zero, List.getElem?_cons_succ]; rfl) (by kernel_rfl) (by kernel_rfl) (by kernel_rfl) (fun _ _ _ h => h) (Or.inl ⟨by rfl, fun W hSw => ?_⟩) (by assumption) ?_
        · clear hSw
          go_simp
        simp only [Act.put, List.setIfInBounds_toArray, List.set_cons_zero, List.set_cons_succ]
        refine wpAnyH_take (i := 10) (v := .int .i64 (j : Int)) (by simp only [List.getElem?_toArray, List.getElem?_cons_zero, List.getElem?_cons_succ]; rfl) (by kernel_rfl) (by kernel_rfl) (by kernel_rfl) (fun _ _ _ h => h) (Or.inl ⟨by rfl, fun W hSw => ?_⟩) (by assumption) ?_
        · clear hSw
          go_simp
        simp only [Act.put, List.setIfInBounds_toArray, List.set_cons_zero, List.set_cons_succ]
        refine wpAnyH_ready (rs := [11]) (by kernel_rfl) (by simp) ?_
        refine AllReadyH.cons (by simp only [List.getElem?_toArray, List.getElem?_cons_zero, List.getElem?_cons_succ]; rfl) (fun K hK => ?_) AllReadyH.nil
        rw [if_pos (by rfl)]
        go_simp
        go_at_call 64
        refine (rsymbols_any j HLt.out _).mono ?_
        rintro e w4 ⟨rfl, hb4⟩
        have HB4 := hid ((show Below wr.heap.size wr wr.drew from (Below.refl _ _).drew).trans hb4)
        dsimp only
        refine hK.out _ _ HB4.out (fun _ => ?_)
        clear hK K hb4
        refine wpAnyH_take (i := 12) (v := .bool false) (by simp only [List.getElem?_toArray, List.getElem?_cons_zero, List.getElem?_cons_succ]; rfl) (by kernel_rfl) (by kernel_rfl) (by kernel_rfl) (fun _ _ _ h => h) (Or.inl ⟨by rfl, fun W hSw => ?_⟩) (by assumption) ?_
        · clear hSw
          go_simp
        simp only [Act.put, List.setIfInBounds_toArray, List.set_cons_zero, List.set_cons_succ]
        refine wpAnyH_take (i := 13) (v := .bool false) (by simp only [List.getElem?_toArray, List.getElem?_cons_zero, List.getElem?_cons_succ]; rfl) (by kernel_rfl) (by kernel_rfl) (by kernel_rfl) (fun _ _ _ h => h) (Or.inl ⟨by rfl, fun W hSw => ?_⟩) (by assumption) ?_
        · clear hSw
          go_simp
        simp only [Act.put, List.setIfInBounds_toArray, List.set_cons_zero, List.set_cons_succ]
        refine wpAnyH_done (by kernel_rfl) ?_ _
        refine NoPanic.normal ?_
        clear c0
        go_wp2_with fail
        go_roundw
        case rel => exact ⟨j + 1, by have := HLt.out; omega, by go_num, hid (fun k hk => by
          by_cases e : k = j
          · rw [e]; exact HOj.out
          · exact HJ.out k (by omega)), HL.out.trans (HB4.out.mono HL.out.size), H0.out.below HB4.out H0.out.lt, H1.out.below HB4.out H1.out.lt⟩
        case measure => have := HLt.out; simp [intOf]; omega
      · by_cases hr : (C j).length ≤ 256 ∧ ∀ x ∈ C j, Cnt x
        · have HY := hid hr
          have hle : decide ((symN j : Int) < ((C j).length : Int)) = true := by
            have h1 : ¬ (C j).length ≤ symN j := fun h2 => hok ⟨h2, hr.2⟩
            simp; omega
          have hle2 : decide (symN j < (C j).length) = true := by
            have h1 : ¬ (C j).length ≤ symN j := fun h2 => hok ⟨h2, hr.2⟩
            simp; omega
          clear hok hr
          have HR := hid (fun W (hb : Below w.heap.size w W) => rright_yes (A j) (cp j) (C j) W HY.out.1 HY.out.2 ((HH.out.low hb).cells j HLt.out))
          refine wp_region_noPanic ?_
          refine wp_region_held_drew (S := fun W' => Below wr.heap.size wr W') (by kernel_rfl) (Below.refl _ _).drew (fun hHeld => ?_)
          refine wpAnyH_take (i := 0) (v := .int .i64 (j : Int)) (by simp only [List.getElem?_toArray, List.getElem?_cons_zero]; rfl) (by kernel_rfl) (by kernel_rfl) (by kernel_rfl) (fun _ _ _ h => h) (Or.inl ⟨by rfl, fun W hSw => ?_⟩) (by assumption) ?_
          · clear hSw
            go_simp
          simp only [Act.put, List.setIfInBounds_toArray, List.set_cons_zero, List.set_cons_succ]
          refine wpAnyH_take (i := 1) (v := .pointer (some ⟨w.heap.size, j, none⟩)) (by simp only [List.getElem?_toArray, List.getElem?_cons_zero, List.getElem?_cons_succ]; rfl) (by kernel_rfl) (by kernel_rfl) (by kernel_rfl) (fun _ _ _ h => h) (Or.inl ⟨by rfl, fun W hSw => ?_⟩) (by assumption) ?_
          · clear hSw
            go_simp
          simp only [Act.put, List.setIfInBounds_toArray, List.set_cons_zero, List.set_cons_succ]
          refine wpAnyH_take (i := 2) (v := .slice (A j) (C j).length (cp j)) (by simp only [List.getElem?_toArray, List.getElem?_cons_zero, List.getElem?_cons_succ]; rfl) (by kernel_rfl) (by kernel_rfl) (by kernel_rfl) (fun _ _ _ h => h) (Or.inl ⟨by rfl, fun W hSw => ?_⟩) (by assumption) ?_
          · have hcw := (hSw.cell (p := ⟨w.heap.size, j, none⟩) H0.out.lt).trans (H0.out.cell (fourL_at A cp C j HLt.out))
            go_simp
          simp only [Act.put, List.setIfInBounds_toArray, List.set_cons_zero, List.set_cons_succ]
          refine wpAnyH_ready (rs := [3]) (by kernel_rfl) (by simp) ?_
          refine AllReadyH.cons (by simp only [List.getElem?_toArray, List.getElem?_cons_zero, List.getElem?_cons_succ]; rfl) (fun K hK => ?_) AllReadyH.nil
          rw [if_pos (by rfl)]
          go_simp
          go_at_call 63
          refine (HR.out _ (HL.out.trans ((Below.refl _ _).drew.mono HL.out.size))).mono ?_
          rintro e w' ⟨rfl, rfl⟩
          dsimp only
          refine hK.out _ _ (Below.refl _ _).drew (fun _ => ?_)
          clear hK K
          refine wpAnyH_take (i := 4) (v := .bool false) (by simp only [List.getElem?_toArray, List.getElem?_cons_zero, List.getElem?_cons_succ]; rfl) (by kernel_rfl) (by kernel_rfl) (by kernel_rfl) (fun _ _ _ h => h) (Or.inl ⟨by rfl, fun W hSw => ?_⟩) (by assumption) ?_
          · clear hSw
            go_simp
          simp only [Act.put, List.setIfInBounds_toArray, List.set_cons_zero, List.set_cons_succ]
          refine wpAnyH_take (i := 5) (v := .bool false) (by simp only [List.getElem?_toArray, List.getElem?_cons_zero, List.getElem?_cons_succ]; rfl) (by kernel_rfl) (by kernel_rfl) (by kernel_rfl) (fun _ _ _ h => h) (Or.inl ⟨by rfl, fun W hSw => ?_⟩) (by assumption) ?_
          · clear hSw
            go_simp
          simp only [Act.put, List.setIfInBounds_toArray, List.set_cons_zero, List.set_cons_succ]
          refine wpAnyH_take (i := 6) (v := .int .i64 (j : Int)) (by simp only [List.getElem?_toArray, List.getElem?_cons_zero, List.getElem?_cons_succ]; rfl) (by kernel_rfl) (by kernel_rfl) (by kernel_rfl) (fun _ _ _ h => h) (Or.inl ⟨by rfl, fun W hSw => ?_⟩) (by assumption) ?_
          · clear hSw
            go_simp
          simp only [Act.put, List.setIfInBounds_toArray, List.set_cons_zero, List.set_cons_succ]
          refine wpAnyH_take (i := 7) (v := .pointer (some ⟨w.heap.size, j, none⟩)) (by simp only [List.getElem?_toArray, List.getElem?_cons_zero, List.getElem?_cons_succ]; rfl) (by kernel_rfl) (by kernel_rfl) (by kernel_rfl) (fun _ _ _ h => h) (Or.inl ⟨by rfl, fun W hSw => ?_⟩) (by assumption) ?_
          · clear hSw
            go_simp
          simp only [Act.put, List.setIfInBounds_toArray, List.set_cons_zero, List.set_cons_succ]
          refine wpAnyH_take (i := 8) (v := .slice (A j) (C j).length (cp j)) (by simp only [List.getElem?_toArray, List.getElem?_cons_zero, List.getElem?_cons_succ]; rfl) (by kernel_rfl) (by kernel_rfl) (by kernel_rfl) (fun _ _ _ h => h) (Or.inl ⟨by rfl, fun W hSw => ?_⟩) (by assumption) ?_
          · have hcw := (hSw.cell (p := ⟨w.heap.size, j, none⟩) H0.out.lt).trans (H0.out.cell (fourL_at A cp C j HLt.out))
            go_simp
          simp only [Act.put, List.setIfInBounds_toArray, List.set_cons_zero, List.set_cons_succ]
          refine wpAnyH_take (i := 9) (v := .int .i64 ((C j).length : Int)) (by simp only [List.getElem?_toArray, List.getElem?_cons_zero, List.getElem?_cons_succ]; rfl) (by kernel_rfl) (by kernel_rfl) (by kernel_rfl) (fun _ _ _ h => h) (Or.inl ⟨by rfl, fun W hSw => ?_⟩) (by assumption) ?_
          · clear hSw
            go_simp
          simp only [Act.put, List.setIfInBounds_toArray, List.set_cons_zero, List.set_cons_succ]
          refine wpAnyH_take (i := 10) (v := .int .i64 (j : Int)) (by simp only [List.getElem?_toArray, List.getElem?_cons_zero, List.getElem?_cons_succ]; rfl) (by kernel_rfl) (by kernel_rfl) (by kernel_rfl) (fun _ _ _ h => h) (Or.inl ⟨by rfl, fun W hSw => ?_⟩) (by assumption) ?_
          · clear hSw
            go_simp
          simp only [Act.put, List.setIfInBounds_toArray, List.set_cons_zero, List.set_cons_succ]
          refine wpAnyH_ready (rs := [11]) (by kernel_rfl) (by simp) ?_
          refine AllReadyH.cons (by simp only [List.getElem?_toArray, List.getElem?_cons_zero, List.getElem?_cons_succ]; rfl) (fun K hK => ?_) AllReadyH.nil
          rw [if_pos (by rfl)]
          go_simp
          go_at_call 64
          refine (rsymbols_any j HLt.out _).mono ?_
          rintro e w4 ⟨rfl, hb4⟩
          have HB4 := hid ((show Below wr.heap.size wr wr.drew from (Below.refl _ _).drew).trans hb4)
          dsimp only
          refine hK.out _ _ HB4.out (fun _ => ?_)
          clear hK K hb4
          refine wpAnyH_take (i := 12) (v := .bool true) (by simp only [List.getElem?_toArray, List.getElem?_cons_zero, List.getElem?_cons_succ]; rfl) (by kernel_rfl) (by kernel_rfl) (by kernel_rfl) (fun _ _ _ h => h) (Or.inl ⟨by rfl, fun W hSw => ?_⟩) (by assumption) ?_
          · clear hSw
            go_simp
          simp only [Act.put, List.setIfInBounds_toArray, List.set_cons_zero, List.set_cons_succ]
          refine wpAnyH_take (i := 13) (v := .bool true) (by simp only [List.getElem?_toArray, List.getElem?_cons_zero, List.getElem?_cons_succ]; rfl) (by kernel_rfl) (by kernel_rfl) (by kernel_rfl) (fun _ _ _ h => h) (Or.inl ⟨by rfl, fun W hSw => ?_⟩) (by assumption) ?_
          · clear hSw
            go_simp
          simp only [Act.put, List.setIfInBounds_toArray, List.set_cons_zero, List.set_cons_succ]
          refine wpAnyH_done (by kernel_rfl) ?_ _
          refine NoPanic.normal ?_
          have H1x := hid (H1.out.below HB4.out H1.out.lt)
          have HLx := hid (HL.out.trans ((HB4.out).mono HL.out.size))
          clear c0
          have d0 := H1x.out.cell (k := 0) rfl
          have d1 := H1x.out.cell (k := 1) rfl
          have d2 := H1x.out.cell (k := 2) rfl
          have d3 := H1x.out.cell (k := 3) rfl
          have z0 := H1x.out.frozen 0
          have z1 := H1x.out.frozen 1
          have z2 := H1x.out.frozen 2
          have z3 := H1x.out.frozen 3
          have HN9 := hid (show Blk ((((w4.setCell ⟨w.heap.size + 1, 0, none⟩ (.slice none 0 0)).setCell ⟨w.heap.size + 1, 1, none⟩ (.slice none 0 0)).setCell ⟨w.heap.size + 1, 2, none⟩ (.slice none 0 0)).setCell ⟨w.heap.size + 1, 3, none⟩ (.slice none 0 0)) (w.heap.size + 1) [.slice none 0 0, .slice none 0 0, .slice none 0 0, .slice none 0 0] 32 from ((((H1x.out.set 0 (.slice none 0 0)).set 1 (.slice none 0 0)).set 2 (.slice none 0 0)).set 3 (.slice none 0 0)))
          have HB9 := hid ((((HLx.out.setCell (p := ⟨w.heap.size + 1, 0, none⟩) (by simp) (.slice none 0 0)).setCell (p := ⟨w.heap.size + 1, 1, none⟩) (by simp) (.slice none 0 0)).setCell (p := ⟨w.heap.size + 1, 2, none⟩) (by simp) (.slice none 0 0)).setCell (p := ⟨w.heap.size + 1, 3, none⟩) (by simp) (.slice none 0 0))
          go_wp2_with fail
          generalize ((((w4.setCell ⟨w.heap.size + 1, 0, none⟩ (.slice none 0 0)).setCell ⟨w.heap.size + 1, 1, none⟩ (.slice none 0 0)).setCell ⟨w.heap.size + 1, 2, none⟩ (.slice none 0 0)).setCell ⟨w.heap.size + 1, 3, none⟩ (.slice none 0 0)) = w9 at *
          have q0 := HN9.out.cell (k := 0) rfl
          have q1 := HN9.out.cell (k := 1) rfl
          have q2 := HN9.out.cell (k := 2) rfl
          have q3 := HN9.out.cell (k := 3) rfl
          refine bodyPost_ret (v := .tuple #[.agg #[.slice none 0 0, .slice none 0 0, .slice none 0 0, .slice none 0 0], .int .i64 2]) (by simp [results, Tryz.results31, go_sem, q0, q1, q2, q3]) rfl ?_
          exact ⟨rfl, HB9.out⟩
        · have HY := hid hr
          clear hok hr
          have HR := hid (fun W (hb : Below w.heap.size w W) => rright_no (A j) (cp j) (C j) W HY.out (Nat.le_trans (HH.out.cap j HLt.out) (HH.out.max j HLt.out)) ((HH.out.low hb).cells j HLt.out))
          refine wp_region_noPanic ?_
          refine wp_region_held_drew (S := fun W' => Below wr.heap.size wr W') (by kernel_rfl) (Below.refl _ _).drew (fun hHeld => ?_)
          refine wpAnyH_take (i := 0) (v := .int .i64 (j : Int)) (by simp only [List.getElem?_toArray, List.getElem?_cons_zero]; rfl) (by kernel_rfl) (by kernel_rfl) (by kernel_rfl) (fun _ _ _ h => h) (Or.inl ⟨by rfl, fun W hSw => ?_⟩) (by assumption) ?_
          · clear hSw
            go_simp
          simp only [Act.put, List.setIfInBounds_toArray, List.set_cons_zero, List.set_cons_succ]
          refine wpAnyH_take (i := 1) (v := .pointer (some ⟨w.heap.size, j, none⟩)) (by simp only [List.getElem?_toArray, List.getElem?_cons_zero, List.getElem?_cons_succ]; rfl) (by kernel_rfl) (by kernel_rfl) (by kernel_rfl) (fun _ _ _ h => h) (Or.inl ⟨by rfl, fun W hSw => ?_⟩) (by assumption) ?_
          · clear hSw
            go_simp
          simp only [Act.put, List.setIfInBounds_toArray, List.set_cons_zero, List.set_cons_succ]
          refine wpAnyH_take (i := 2) (v := .slice (A j) (C j).length (cp j)) (by simp only [List.getElem?_toArray, List.getElem?_cons_zero, List.getElem?_cons_succ]; rfl) (by kernel_rfl) (by kernel_rfl) (by kernel_rfl) (fun _ _ _ h => h) (Or.inl ⟨by rfl, fun W hSw => ?_⟩) (by assumption) ?_
          · have hcw := (hSw.cell (p := ⟨w.heap.size, j, none⟩) H0.out.lt).trans (H0.out.cell (fourL_at A cp C j HLt.out))
            go_simp
          simp only [Act.put, List.setIfInBounds_toArray, List.set_cons_zero, List.set_cons_succ]
          refine wpAnyH_ready (rs := [3]) (by kernel_rfl) (by simp) ?_
          refine AllReadyH.cons (by simp only [List.getElem?_toArray, List.getElem?_cons_zero, List.getElem?_cons_succ]; rfl) (fun K hK => ?_) AllReadyH.nil
          rw [if_pos (by rfl)]
          go_simp
          go_at_call 63
          refine (HR.out _ (HL.out.trans ((Below.refl _ _).drew.mono HL.out.size))).mono ?_
          rintro e w' ⟨rfl, rfl⟩
          dsimp only
          refine hK.out _ _ (Below.refl _ _).drew (fun _ => ?_)
          clear hK K
          refine wpAnyH_take (i := 4) (v := .bool true) (by simp only [List.getElem?_toArray, List.getElem?_cons_zero, List.getElem?_cons_succ]; rfl) (by kernel_rfl) (by kernel_rfl) (by kernel_rfl) (fun _ _ _ h => h) (Or.inl ⟨by rfl, fun W hSw => ?_⟩) (by assumption) ?_
          · clear hSw
            go_simp
          simp only [Act.put, List.setIfInBounds_toArray, List.set_cons_zero, List.set_cons_succ]
          refine wpAnyH_take (i := 5) (v := .bool true) (by simp only [List.getElem?_toArray, List.getElem?_cons_zero, List.getElem?_cons_succ]; rfl) (by kernel_rfl) (by kernel_rfl) (by kernel_rfl) (fun _ _ _ h => h) (Or.inl ⟨by rfl, fun W hSw => ?_⟩) (by assumption) ?_
          · clear hSw
            go_simp
          simp only [Act.put, List.setIfInBounds_toArray, List.set_cons_zero, List.set_cons_succ]
          refine wpAnyH_take (i := 6) (v := undef) (by simp only [List.getElem?_toArray, List.getElem?_cons_zero, List.getElem?_cons_succ]; rfl) (by kernel_rfl) (by kernel_rfl) (by kernel_rfl) (fun _ _ _ h => h) (Or.inr ⟨by rfl, rfl⟩) (by assumption) ?_
          simp only [Act.put, List.setIfInBounds_toArray, List.set_cons_zero, List.set_cons_succ]
          refine wpAnyH_take (i := 7) (v := undef) (by simp only [List.getElem?_toArray, List.getElem?_cons_zero, List.getElem?_cons_succ]; rfl) (by kernel_rfl) (by kernel_rfl) (by kernel_rfl) (fun _ _ _ h => h) (Or.inr ⟨by rfl, rfl⟩) (by assumption) ?_
          simp only [Act.put, List.setIfInBounds_toArray, List.set_cons_zero, List.set_cons_succ]
          refine wpAnyH_take (i := 8) (v := undef) (by simp only [List.getElem?_toArray, List.getElem?_cons_zero, List.getElem?_cons_succ]; rfl) (by kernel_rfl) (by kernel_rfl) (by kernel_rfl) (fun _ _ _ h => h) (Or.inr ⟨by rfl, rfl⟩) (by assumption) ?_
          simp only [Act.put, List.setIfInBounds_toArray, List.set_cons_zero, List.set_cons_succ]
          refine wpAnyH_take (i := 9) (v := undef) (by simp only [List.getElem?_toArray, List.getElem?_cons_zero, List.getElem?_cons_succ]; rfl) (by kernel_rfl) (by kernel_rfl) (by kernel_rfl) (fun _ _ _ h => h) (Or.inr ⟨by rfl, rfl⟩) (by assumption) ?_
          simp only [Act.put, List.setIfInBounds_toArray, List.set_cons_zero, List.set_cons_succ]
          refine wpAnyH_take (i := 10) (v := undef) (by simp only [List.getElem?_toArray, List.getElem?_cons_zero, List.getElem?_cons_succ]; rfl) (by kernel_rfl) (by kernel_rfl) (by kernel_rfl) (fun _ _ _ h => h) (Or.inr ⟨by rfl, rfl⟩) (by assumption) ?_
          simp only [Act.put, List.setIfInBounds_toArray, List.set_cons_zero, List.set_cons_succ]
          refine wpAnyH_take (i := 11) (v := undef) (by simp only [List.getElem?_toArray, List.getElem?_cons_zero, List.getElem?_cons_succ]; rfl) (by kernel_rfl) (by kernel_rfl) (by kernel_rfl) (fun _ _ _ h => h) (Or.inr ⟨by rfl, rfl⟩) (by assumption) ?_
          simp only [Act.put, List.setIfInBounds_toArray, List.set_cons_zero, List.set_cons_succ]
          refine wpAnyH_take (i := 12) (v := undef) (by simp only [List.getElem?_toArray, List.getElem?_cons_zero, List.getElem?_cons_succ]; rfl) (by kernel_rfl) (by kernel_rfl) (by kernel_rfl) (fun _ _ _ h => h) (Or.inr ⟨by rfl, rfl⟩) (by assumption) ?_
          simp only [Act.put, List.setIfInBounds_toArray, List.set_cons_zero, List.set_cons_succ]
          refine wpAnyH_take (i := 13) (v := .bool true) (by simp only [List.getElem?_toArray, List.getElem?_cons_zero, List.getElem?_cons_succ]; rfl) (by kernel_rfl) (by kernel_rfl) (by kernel_rfl) (fun _ _ _ h => h) (Or.inl ⟨by rfl, fun W hSw => ?_⟩) (by assumption) ?_
          · clear hSw
            go_simp
          simp only [Act.put, List.setIfInBounds_toArray, List.set_cons_zero, List.set_cons_succ]
          refine wpAnyH_done (by kernel_rfl) ?_ _
          refine NoPanic.normal ?_
          have HB4 := hid (show Below wr.heap.size wr wr.drew from (Below.refl _ _).drew)
          generalize wr.drew = w4 at *
          have H1x := hid (H1.out.below HB4.out H1.out.lt)
          have HLx := hid (HL.out.trans ((HB4.out).mono HL.out.size))
          clear c0
          have d0 := H1x.out.cell (k := 0) rfl
          have d1 := H1x.out.cell (k := 1) rfl
          have d2 := H1x.out.cell (k := 2) rfl
          have d3 := H1x.out.cell (k := 3) rfl
          have z0 := H1x.out.frozen 0
          have z1 := H1x.out.frozen 1
          have z2 := H1x.out.frozen 2
          have z3 := H1x.out.frozen 3
          have HN9 := hid (show Blk ((((w4.setCell ⟨w.heap.size + 1, 0, none⟩ (.slice none 0 0)).setCell ⟨w.heap.size + 1, 1, none⟩ (.slice none 0 0)).setCell ⟨w.heap.size + 1, 2, none⟩ (.slice none 0 0)).setCell ⟨w.heap.size + 1, 3, none⟩ (.slice none 0 0)) (w.heap.size + 1) [.slice none 0 0, .slice none 0 0, .slice none 0 0, .slice none 0 0] 32 from ((((H1x.out.set 0 (.slice none 0 0)).set 1 (.slice none 0 0)).set 2 (.slice none 0 0)).set 3 (.slice none 0 0)))
          have HB9 := hid ((((HLx.out.setCell (p := ⟨w.heap.size + 1, 0, none⟩) (by simp) (.slice none 0 0)).setCell (p := ⟨w.heap.size + 1, 1, none⟩) (by simp) (.slice none 0 0)).setCell (p := ⟨w.heap.size + 1, 2, none⟩) (by simp) (.slice none 0 0)).setCell (p := ⟨w.heap.size + 1, 3, none⟩) (by simp) (.slice none 0 0))
          go_wp2_with fail
          generalize ((((w4.setCell ⟨w.heap.size + 1, 0, none⟩ (.slice none 0 0)).setCell ⟨w.heap.size + 1, 1, none⟩ (.slice none 0 0)).setCell ⟨w.heap.size + 1, 2, none⟩ (.slice none 0 0)).setCell ⟨w.heap.size + 1, 3, none⟩ (.slice none 0 0)) = w9 at *
          have q0 := HN9.out.cell (k := 0) rfl
          have q1 := HN9.out.cell (k := 1) rfl
          have q2 := HN9.out.cell (k := 2) rfl
          have q3 := HN9.out.cell (k := 3) rfl
          refine bodyPost_ret (v := .tuple #[.agg #[.slice none 0 0, .slice none 0 0, .slice none 0 0, .slice none 0 0], .int .i64 2]) (by simp [results, Tryz.results31, go_sem, q0, q1, q2, q3]) rfl ?_
          exact ⟨rfl, HB9.out⟩
    · obtain rfl : j = 4 := by omega
      exact absurd HJ.out HOk.out
end Go.Proofs.YtiagbejfghincaaGreat
