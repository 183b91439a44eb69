/-
  The law MatchHolds: for at most 300 bytes, any position and limit, at most 60 candidates: offsets and lengths of the increasing matches increase, each is a match of exactly its length, the last is the best match. No condition.
-/
import Derived.Test.YtaoiaiddamnbiaaMatchM
namespace Go.Port
open Go.RowKit

/-- What the increasing matches are, one after the other. -/
theorem rise_spec (l : List Sq) : ∀ (f : Nat) (last longest : Int) (i : Nat) (x : Sq), (riseGo f l last longest)[i]? = some x →
    (((riseGo f l last longest).take i).getLastD ⟨0, longest, last⟩).off < x.off ∧ (((riseGo f l last longest).take i).getLastD ⟨0, longest, last⟩).len < x.len ∧ ∃ y ∈ l, x = ⟨0, y.len, y.off⟩ := by
  intro f
  induction f with
  | zero => intro last longest i x h; simp [riseGo] at h
  | succ f ih =>
    intro last longest i x h
    have hn := nextGo_spec l last l none (fun y hy => by cases hy)
    unfold riseGo at h ⊢
    cases he : nextGo l last none l with
    | none => rw [he] at h; simp at h
    | some y =>
      obtain ⟨h1, h2, _, _⟩ := hn.2 y he
      have hy : y ∈ l := by simpa using h1
      rw [he] at h
      dsimp only at h ⊢
      split at h
      · rename_i hlt
        rw [if_pos hlt]
        cases i with
        | zero =>
          simp only [List.getElem?_cons_zero, Option.some.injEq] at h
          subst h
          exact ⟨h2, hlt, y, hy, rfl⟩
        | succ i =>
          simp only [List.getElem?_cons_succ] at h
          have := ih y.off y.len i x h
          simp only [List.take_succ_cons, List.getLastD_cons]
          exact this
      · rename_i hlt
        rw [if_neg hlt]
        have h3 := ih y.off longest i x h
        cases hL : (riseGo f l y.off longest).take i with
        | nil =>
          rw [hL] at h3
          simp only [List.getLastD_nil] at h3 ⊢
          exact ⟨by omega, h3.2⟩
        | cons u t =>
          rw [hL] at h3
          simp only [List.getLastD_cons] at h3 ⊢
          exact h3

theorem riseGo_length (l : List Sq) : ∀ (f : Nat) (last longest : Int), (riseGo f l last longest).length ≤ f := by
  intro f
  induction f with
  | zero => intro last longest; simp [riseGo]
  | succ f ih =>
    intro last longest
    unfold riseGo
    split
    · simp
    · rename_i y _
      split
      · have := ih y.off y.len
        simp only [List.length_cons]
        omega
      · have := ih y.off longest
        omega

theorem firstGo_mem' (l : List Sq) : ∀ (o : Option Sq) (s : Sq), firstGo aheadB o l = some s → o = some s ∨ s ∈ l := by
  induction l with
  | nil => intro o s h; cases o <;> exact .inl h
  | cons x l ih =>
    intro o s h
    cases o with
    | none =>
      rcases ih _ _ h with h1 | h1
      · cases h1; exact .inr (by simp)
      · exact .inr (by simp [h1])
    | some y =>
      rcases ih _ _ h with h1 | h1
      · split at h1
        · cases h1; exact .inr (by simp)
        · exact .inl h1
      · exact .inr (by simp [h1])
theorem firstGo_best (l : List Sq) : ∀ (o : Option Sq) (s : Sq), firstGo aheadB o l = some s → (∀ x ∈ l, aheadB x s = false) ∧ ∀ y, o = some y → aheadB y s = false := by
  induction l with
  | nil =>
    intro o s h
    have h' : o = some s := by cases o <;> exact h
    refine ⟨fun x hx => (by cases hx), fun y hy => ?_⟩
    rw [h'] at hy
    cases hy
    simp [aheadB]
  | cons x l ih =>
    intro o s h
    cases o with
    | none =>
      obtain ⟨h1, h2⟩ := ih _ _ h
      refine ⟨fun z hz => ?_, fun y hy => (by cases hy)⟩
      rcases List.mem_cons.1 hz with rfl | hz
      · exact h2 _ rfl
      · exact h1 z hz
    | some y =>
      obtain ⟨h1, h2⟩ := ih _ _ h
      have h3 : aheadB x s = false ∧ aheadB y s = false := by
        by_cases ha : aheadB x y = true
        · have := h2 x (by rw [if_pos ha])
          refine ⟨this, ?_⟩
          simp only [aheadB, Bool.or_eq_true, Bool.and_eq_true, Bool.or_eq_false_iff, Bool.and_eq_false_iff, decide_eq_true_eq, decide_eq_false_iff_not] at ha this ⊢
          omega
        · have := h2 y (by rw [if_neg ha])
          refine ⟨?_, this⟩
          simp only [aheadB, Bool.or_eq_true, Bool.and_eq_true, Bool.or_eq_false_iff, Bool.and_eq_false_iff, decide_eq_true_eq, decide_eq_false_iff_not] at ha this ⊢
          omega
      refine ⟨fun z hz => ?_, fun z hz => (by cases hz; exact h3.2)⟩
      rcases List.mem_cons.1 hz with rfl | hz
      · exact h3.1
      · exact h1 z hz

theorem scan_last (r : List Sq) : ∀ (n : Int) (d : Sq), d.len = n → ByOff r →
    (∀ x ∈ r, x.len ≤ ((scanGo n r).getLastD d).len ∧ (n < ((scanGo n r).getLastD d).len → x.len = ((scanGo n r).getLastD d).len → ((scanGo n r).getLastD d).off ≤ x.off)) ∧
      n ≤ ((scanGo n r).getLastD d).len ∧ ((scanGo n r = [] ∧ (scanGo n r).getLastD d = d) ∨ ((scanGo n r).getLastD d ∈ r ∧ n < ((scanGo n r).getLastD d).len ∧ scanGo n r ≠ [])) := by
  induction r with
  | nil => intro n d hd _; exact ⟨fun x hx => (by cases hx), by simp [scanGo, hd], .inl ⟨rfl, rfl⟩⟩
  | cons s r ih =>
    intro n d hd hs
    have hp := List.pairwise_cons.1 hs
    unfold scanGo
    by_cases hn : n < s.len
    · rw [if_pos hn]
      obtain ⟨h1, h2, h3⟩ := ih s.len s rfl hp.2
      rw [List.getLastD_cons]
      generalize hz : (scanGo s.len r).getLastD s = z at *
      refine ⟨fun x hx => ?_, by omega, .inr ⟨?_, by omega, by simp⟩⟩
      · rcases List.mem_cons.1 hx with rfl | hx
        · refine ⟨h2, fun _ he => ?_⟩
          rcases h3 with ⟨_, h3⟩ | ⟨_, h3, _⟩
          · rw [h3]; exact Int.le_refl _
          · omega
        · refine ⟨(h1 x hx).1, fun _ he => ?_⟩
          by_cases hsz : s.len < z.len
          · exact (h1 x hx).2 hsz he
          · rcases h3 with ⟨_, h3⟩ | ⟨_, h3, _⟩
            · rw [h3]; exact hp.1 x hx
            · omega
      · rcases h3 with ⟨_, h3⟩ | ⟨h3, _⟩
        · rw [h3]; simp
        · simp [h3]
    · rw [if_neg hn]
      obtain ⟨h1, h2, h3⟩ := ih n d hd hp.2
      refine ⟨fun x hx => ?_, h2, ?_⟩
      · rcases List.mem_cons.1 hx with rfl | hx
        · exact ⟨by omega, fun _ _ => by omega⟩
        · exact h1 x hx
      · rcases h3 with h3 | ⟨h3, h4⟩
        · exact .inl h3
        · exact .inr ⟨List.mem_cons_of_mem _ h3, h4⟩

theorem inc_best (b : List UInt8) (pos most : Int) (frm : List Int) :
    (match bestS b pos most frm with
      | none => incS b pos most frm = []
      | some s => incS b pos most frm ≠ [] ∧ s.len = ((incS b pos most frm).getLastD ⟨0, 2, 0⟩).len ∧ s.off = ((incS b pos most frm).getLastD ⟨0, 2, 0⟩).off) := by
  have hp := List.mergeSort_perm (matchesS b pos most frm) (fun x y => decide (x.off ≤ y.off))
  have hs : ByOff ((matchesS b pos most frm).mergeSort (fun x y => decide (x.off ≤ y.off))) := by
    have := List.pairwise_mergeSort (le := fun x y : Sq => decide (x.off ≤ y.off)) (fun a b c h1 h2 => by simp at *; omega) (fun a b => by simp; omega) (matchesS b pos most frm)
    exact this.imp (fun h => by simpa using h)
  generalize (matchesS b pos most frm).mergeSort (fun x y => decide (x.off ≤ y.off)) = r at hp hs
  have hL : incS b pos most frm = scanGo 2 r := by
    unfold incS
    exact rise_eq b pos most frm r hp hs (frm.length + 1) (by have := hp.length_eq; have := matchesS_length b pos most frm; omega)
  rw [hL]
  obtain ⟨h1, h2, h3⟩ := scan_last r 2 ⟨0, 2, 0⟩ rfl hs
  generalize hz : (scanGo 2 r).getLastD ⟨0, 2, 0⟩ = z at *
  unfold bestS
  cases hf : firstGo aheadB none (matchesS b pos most frm) with
  | none =>
    dsimp only
    have hnil : matchesS b pos most frm = [] := by
      cases hm : matchesS b pos most frm with
      | nil => rfl
      | cons x t =>
        rw [hm] at hf
        exfalso
        have : ∀ (t : List Sq) (y : Sq), firstGo aheadB (some y) t ≠ none := by
          intro t
          induction t with
          | nil => intro y h; cases h
          | cons u t ih => intro y h; simp only [firstGo] at h; split at h <;> exact ih _ h
        exact this t x hf
    rw [hnil] at hp
    have : r = [] := List.perm_nil.1 hp
    rw [this]
    rfl
  | some s =>
    dsimp only
    have hmax := (firstGo_best _ _ _ hf).1
    have hmem : s ∈ r := by
      rcases firstGo_mem' _ _ _ hf with h | h
      · cases h
      · exact hp.mem_iff.2 h
    by_cases h4 : s.len < 3
    · rw [if_pos h4]
      rcases h3 with ⟨h3, _⟩ | ⟨h3, h5, _⟩
      · exact h3
      · have := hmax z (hp.mem_iff.1 h3)
        simp only [aheadB, Bool.or_eq_false_iff, Bool.and_eq_false_iff, decide_eq_false_iff_not] at this
        omega
    · rw [if_neg h4]
      have ha := h1 s hmem
      rcases h3 with ⟨_, h3⟩ | ⟨h3, h5, h6⟩
      · rw [h3] at ha
        have := ha.1
        dsimp only at this
        omega
      · have := hmax z (hp.mem_iff.1 h3)
        simp only [aheadB, Bool.or_eq_false_iff, Bool.and_eq_false_iff, decide_eq_false_iff_not] at this
        have hb := ha.2 h5
        refine ⟨h6, by omega, ?_⟩
        have := hb (by omega)
        omega
end Go.Port
namespace Go.Proofs.Ytaoiaiddamnbiaa
open Go.RowKit Go.Port

set_option maxRecDepth 100000 in
set_option maxHeartbeats 4000000 in
theorem MatchHolds_walk (w : World) (vb : Value) (bs : List UInt8) (hvb : Rs w 1 vb bs.length (bs.map bv)) (pos : Int) (_ : -9223372036854775808 ≤ pos ∧ pos ≤ 9223372036854775807) (most : Int) (_ : -9223372036854775808 ≤ most ∧ most ≤ 9223372036854775807) (v : Value) (l : List Int) (hv : Rs w 1 v l.length (l.map (Value.int .i64))) (_ : ∀ x ∈ l, -9223372036854775808 ≤ x ∧ x ≤ 9223372036854775807) :
    Calls Try.prog 9 #[vb, .int .i64 pos, .int .i64 most, v] w (RetV w (.bool true)) := by
  obtain ⟨_, a, c, rfl, hnc, hcm, hac, hcell⟩ := hv
  obtain ⟨_, ab, cb, rfl, hnb, hbm, hab, hbcell⟩ := hvb
  have HW := hid works_any
  by_cases h4 : 300 < bs.length
  · clear hcell hbcell
    go_enter Try.func9, Try.ntmps9
    go_wp2_with (go_at_call 11; refine (HW.out _).mono ?_; rintro e w' ⟨rfl, hb⟩)
    go_ret
    exact ⟨rfl, hb⟩
  · by_cases h5 : 60 < l.length
    · clear hcell hbcell
      go_enter Try.func9, Try.ntmps9
      go_wp2_with (go_at_call 11; refine (HW.out _).mono ?_; rintro e w' ⟨rfl, hb⟩)
      go_ret
      exact ⟨rfl, hb⟩
    · have HI := hid (increasing_any ab a cb c bs pos most l w (by omega) hnb (by omega) hbcell hcell)
      have HBe := hid (fun W (hW : Below w.heap.size w W) => best_any ab a cb c bs pos most l W (by omega) hnb (by omega) (at_same hbcell hW) (at_same hcell hW))
      have HLen := hid (fun (z : Int) W (hW : Below w.heap.size w W) => len_any ab cb bs pos z most W (by omega) hnb (at_same hbcell hW))
      have HSP := hid (fun i x h => rise_spec (matchesS bs pos most l) (l.length + 1) 0 2 i x h)
      have hIB := inc_best bs pos most l
      have hLlen : (incS bs pos most l).length ≤ 100 := by
        have := riseGo_length (matchesS bs pos most l) (l.length + 1) 0 2
        unfold incS
        omega
      clear hcell hbcell
      cases ho : bestS bs pos most l with
      | none =>
        rw [ho] at hIB HBe
        have hL : incS bs pos most l = [] := hIB
        rw [hL] at HI
        unfold sqv at HBe
        dsimp only [Option.getD, Option.isSome, Sq.zero] at HBe
        clear hIB HSP hL hLlen
        go_enter Try.func9, Try.ntmps9
        go_wp2_with fail
        refine HI.out.mono ?_
        rintro e w1 ⟨v1, rfl, hown, hb1⟩
        obtain ⟨a1, c1, rfl⟩ := own_slice hown
        have HB1 := hid hb1
        clear hown hb1
        go_wp2_with fail
        refine (HBe.out _ HB1.out).mono ?_
        rintro e w2 ⟨rfl, hb2⟩
        have hbx := HB1.out.trans (hb2.mono HB1.out.size)
        have HB2 := hid (hbx.alloc hbx.size (.cells #[.int .i64 0, .int .i64 0, .int .i64 0] 28))
        clear hb2 hbx
        go_wp2
        go_loopw [12, 13, 14] (fun o n i wr => o = .int .i64 0 ∧ n = .int .i64 2 ∧ i = .int .i64 0 ∧ Below w.heap.size w wr) (fun _ _ _ _ => 0)
        case atStart => exact ⟨rfl, rfl, rfl, HB2.out⟩
        case round =>
          obtain ⟨rfl, rfl, rfl, hB⟩ := hrel
          have HBr := hid hB
          clear hB
          go_wp2_with fail
          refine (HW.out _).mono ?_
          rintro e w6 ⟨rfl, hb6⟩
          go_wp2
          go_ret
          exact ⟨rfl, HBr.out.trans (hb6.mono HBr.out.size)⟩
      | some s =>
        rw [ho] at hIB HBe
        obtain ⟨hne, hl1, hl2⟩ := hIB
        have hL0 : 0 < (incS bs pos most l).length := List.length_pos_iff.2 hne
        have HLS := hid (And.intro hl1 hl2)
        obtain ⟨sl, sn, so⟩ := s
        unfold sqv at HBe
        dsimp only [Option.getD, Option.isSome] at HBe
        clear hl1 hl2 hne ho
        unfold incS at *
        generalize hLL : riseGo (l.length + 1) (matchesS bs pos most l) 0 2 = L at *
        go_enter Try.func9, Try.ntmps9
        go_wp2_with fail
        refine HI.out.mono ?_
        rintro e w1 ⟨v1, rfl, hown, hb1⟩
        obtain ⟨a1, c1, rfl⟩ := own_slice hown
        have HB1 := hid hb1
        have HC := hid (fun W (hW : Below w1.heap.size w1 W) j u (hu : (L.flatMap sqc)[j]? = some u) => (show ∃ bl off, a1 = some ⟨bl, off, none⟩ ∧ bl < W.heap.size ∧ W.cell? ⟨bl, off + j, none⟩ = some u from by
          obtain ⟨_, _, e, _, _, _, h⟩ := ((Sl.of_owns hown).below hW).open
          cases e
          exact h j u hu))
        clear hown hb1
        go_wp2_with fail
        refine (HBe.out _ HB1.out).mono ?_
        rintro e w2 ⟨rfl, hb2⟩
        have HP := hid (Blk.new w2 [.int .i64 sl, .int .i64 sn, .int .i64 so] 28)
        have HQ := hid (hb2.alloc hb2.size (.cells #[.int .i64 sl, .int .i64 sn, .int .i64 so] 28))
        clear hb2
        go_wp2
        generalize hW2 : w2.alloc (.cells #[.int .i64 sl, .int .i64 sn, .int .i64 so] 28) = W2 at *
        generalize w2.heap.size = g2 at *
        have HBW := hid (HB1.out.trans (HQ.out.mono HB1.out.size))
        clear hW2
        go_loopw [12, 13, 14] (fun v12 v13 i wr => ∃ (k : Nat) (O N : Int), k ≤ L.length ∧ v12 = .int .i64 O ∧ v13 = .int .i64 N ∧ i = .int .i64 k ∧ Hid (O = ((L.take k).getLastD ⟨0, 2, 0⟩).off ∧ N = ((L.take k).getLastD ⟨0, 2, 0⟩).len) ∧ Below W2.heap.size W2 wr) (fun _ _ i _ => L.length - (intOf i).toNat)
        case atStart => exact ⟨0, 0, 2, Nat.zero_le _, rfl, rfl, rfl, hid ⟨rfl, rfl⟩, Below.refl _ _⟩
        case round =>
          obtain ⟨k, O, N, hk, rfl, rfl, rfl, HON, hB⟩ := hrel
          have HBr := hid hB
          clear hB
          by_cases hlt : k < L.length
          · obtain ⟨x, hx⟩ : ∃ x, L[k]? = some x := ⟨L[k], by simp [hlt]⟩
            have hsp := HSP.out k x hx
            rw [← HON.out.1, ← HON.out.2] at hsp
            obtain ⟨hs1, hs2, y, hy, rfl⟩ := hsp
            obtain ⟨z, _, hez, rfl⟩ := matchesS_mem hy
            obtain ⟨p, q, rfl, rfl, hqp, hpn⟩ := earlier_iff hez
            dsimp only at hs1 hs2 hx
            obtain ⟨d, hd⟩ : ∃ d : Nat, (p : Int) - (q : Int) = (d : Int) := ⟨p - q, by omega⟩
            have HTK := hid (show (L.take (k + 1)).getLastD ⟨0, 2, 0⟩ = ⟨0, (lenS bs (p : Int) (q : Int) most : Nat), (p : Int) - (q : Int)⟩ from by
              obtain ⟨h1, h2⟩ := List.getElem?_eq_some_iff.1 hx
              rw [List.take_succ_eq_append_getElem h1, h2, List.getLastD_concat])
            have hq := HQ.out.trans (HBr.out.mono HQ.out.size)
            obtain ⟨bl, off, rfl, hb0, c0⟩ := HC.out wr hq (k * 3 + 0) (.int .i64 0) (by rw [sqc_get hx 0 (by omega)]; rfl)
            obtain ⟨bl1, off1, e1, _, c1⟩ := HC.out wr hq (k * 3 + 1) (.int .i64 (lenS bs (p : Int) (q : Int) most : Nat)) (by rw [sqc_get hx 1 (by omega)]; rfl)
            cases e1
            obtain ⟨bl2, off2, e2, _, c2⟩ := HC.out wr hq (k * 3 + 2) (.int .i64 ((p : Int) - (q : Int))) (by rw [sqc_get hx 2 (by omega)]; rfl)
            cases e2
            rw [Nat.add_zero] at c0
            rw [← Nat.add_assoc] at c1 c2
            have HLV := hid (fun V : LowOf wr.heap.size wr => Calls.low_of V (Nat.le_refl _) (HLen.out (q : Int) V.W (by
              have h1 := HBW.out.trans (HBr.out.mono HBW.out.size)
              exact h1.trans (V.below.mono h1.size))))
            rw [hd] at c2 hs1 HTK
            generalize lenS bs (p : Int) (q : Int) most = X at *
            have f0 := fun V : LowOf wr.heap.size wr => V.cell c0 hb0
            have f1 := fun V : LowOf wr.heap.size wr => V.cell c1 hb0
            have f2 := fun V : LowOf wr.heap.size wr => V.cell c2 hb0
            have hw1 : IntKind.i64.wrap ((p : Int) - (d : Int)) = (q : Int) := by rw [IntKind.wrap_i64]; omega
            have hkI : (k : Int) < (L.length : Int) := by omega
            have hd1 : decide ((d : Int) ≤ O) = false := decide_eq_false (by omega)
            have hd2 : decide ((X : Int) ≤ N) = false := decide_eq_false (by omega)
            clear hy hez hx c0 c1 c2 hd
            go_wp2_with fail
            refine wp_region_low wr.heap.size (by kernel_rfl) (by kernel_rfl) ?_
            repeat (go_big_quiet_step (with_reducible exact HLV.out _))
            refine wpQuiet_nil ?_
            rintro _ ⟨V, rfl⟩
            have e1 := f1 V
            have e2 := f2 V
            have HBV := hid (HBr.out.trans (V.below.mono HBr.out.size))
            clear f0 f1 f2 HLV
            generalize V.W = WV at *
            go_wp2
            go_quiet (fail)
            go_wp2
            go_roundw
            case rel => exact ⟨k + 1, d, X, hlt, rfl, rfl, by go_num, hid (by rw [HTK.out]; exact ⟨rfl, rfl⟩), below_drewN HBV.out _⟩
            case measure => simp [intOf]; omega
          · obtain rfl : k = L.length := by omega
            have hon := HON.out
            rw [List.take_of_length_le (Nat.le_refl _), ← HLS.out.1, ← HLS.out.2] at hon
            obtain ⟨rfl, rfl⟩ := hon
            have hp9 := HP.out.below HBr.out HP.out.lt
            have p1 := hp9.cell (k := 1) rfl
            have p2 := hp9.cell (k := 2) rfl
            have HB9 := hid (HBW.out.trans (HBr.out.mono HBW.out.size))
            clear hp9
            go_wp2_with fail
            refine (HW.out _).mono ?_
            rintro e w6 ⟨rfl, hb6⟩
            go_wp2
            go_ret
            exact ⟨rfl, HB9.out.trans (hb6.mono HB9.out.size)⟩
end Go.Proofs.Ytaoiaiddamnbiaa
namespace Go.Proofs.Ytaoiaiddamnbiaa.LMatchHolds
open Go.ChangeShapes Go.WideShapes Go.ChangeAt Go.RowKit Go.Port

set_option maxRecDepth 100000 in
theorem lifted (os : Os) (started : os.Started) (H : Type) (enc : TypeId × Value → H) :
    ReturnsInHanded {} Try.checked os 9 .any (Rows.matchHoldsSpec.pre6 enc Try.prog Try.f9 Rows.matchHoldsRow.domain false) (Rows.matchHoldsSpec.post enc Try.prog Try.f9 false true false false) := by
  refine returnsInHanded_of_change (C := Try.checked) Try.own started (by kernel_rfl) Try.func9
    (ChangeSpec.witness6 (enc := enc) (C := Try.checked) false ⟨#[], #[.slice none 0 0, .int .i64 0, .int .i64 0, .slice none 0 0], []⟩ 8 (by kernel_rfl) (by kernel_rfl) (by kernel_rfl) (by kernel_rfl)) ?_
  intro W base args ds gs before hval0 hW hcnd _
  have hval : ∀ (j : Nat) t v, Try.f9.params[j]? = some t → args[j]? = some v → Value.okWide Try.prog W .any base t v := hval0
  have hW' := hW
  obtain ⟨p, q, hA0, hV, rfl, hfz, hnd⟩ := hW
  have hA : DataW.TrodAll enc Try.prog W 0 (fun _ => true) true Try.f9.params.toList args.toList ds p := hA0
  rw [Try.params9] at hA hval
  obtain ⟨v0, vs0, d0, ds0, p0, q0, hargs, rfl, rfl, h0, r0⟩ := trodAll_cons hA
  obtain ⟨v1, vs1, d1, ds1, p1, q1, rfl, rfl, rfl, h1, r1⟩ := trodAll_cons r0
  obtain ⟨v2, vs2, d2, ds2, p2, q2, rfl, rfl, rfl, h2, r2⟩ := trodAll_cons r1
  obtain ⟨v3, vs3, d3, ds3, p3, q3, rfl, rfl, rfl, h3, r3⟩ := trodAll_cons r2
  obtain ⟨rfl, rfl, rfl⟩ := trodAll_nil r3
  obtain rfl : args = #[v0, v1, v2, v3] := by cases args; simp_all
  obtain ⟨rfl, rfl⟩ := trodVars_none hV
  obtain ⟨l0, hl0, wl0⟩ := open_rowV Try.underlying22 Try.underlying5 (by kernel_rfl) (hval 0 22 v0 rfl rfl) h0
  obtain ⟨bs0, hbs0, hn0⟩ := bytes_of wl0
  rw [hbs0, ← hn0] at hl0
  obtain ⟨a1, rfl, rfl, rfl, w1⟩ := open_int Try.underlying3 (hval 1 3 v1 rfl rfl) h1
  obtain ⟨a2, rfl, rfl, rfl, w2⟩ := open_int Try.underlying3 (hval 2 3 v2 rfl rfl) h2
  obtain ⟨l3, hl3, wl3⟩ := open_rowV Try.underlying26 Try.underlying3 (by kernel_rfl) (hval 3 26 v3 rfl rfl) h3
  clear hA0 hval0
  simp only [List.append_nil] at hW'
  refine (MatchHolds_walk W v0 bs0 hl0 a1 (bounds_i64 w1) a2 (bounds_i64 w2) v3 l3 hl3 (fun x hx => bounds_i64 (wl3 x hx))).mono fun e W' ⟨he, hb⟩ => ?_
  subst he
  exact ⟨_, rfl, law_post Try.kids Try.full Try.underlying4 rfl rfl hW' (by rw [Try.params9]; decide) rfl rfl rfl hb⟩

theorem over : Rows.matchHoldsRow.holds Try.pinned (OpenSpec.ofChange Rows.matchHoldsSpec) :=
  OpenClaim.holds_of_wide 9 Try.f9 rfl rfl rfl rfl rfl rfl rfl ⟨rfl, rfl, rfl, rfl, rfl⟩ rfl rfl rfl rfl rfl (by kernel_rfl) Try.func9 (by kernel_rfl)
    (of_decide_eq_true (by kernel_rfl)) (by unfold Func.isWrapper; first | (rw [if_pos (by decide +kernel)]; kernel_rfl) | (rw [if_neg (by decide +kernel)]; exact ⟨rfl, rfl⟩))
    (fun os started H enc _ => lifted os started H enc)

/-- The statement. -/
theorem proved : Rows.MatchHoldsSaid :=
  over
end Go.Proofs.Ytaoiaiddamnbiaa.LMatchHolds
