/-
  The law MatchSaves: for a size from 0 to 100000 and at most 60 sequences, to make a match longer saves 8 a byte, and a sequence adds at most 50 to the cost. No condition.
-/
import Derived.Test.YtaoiaiddamnbiaaMatchN
import Derived.Test.YtaoiaiddamnbiaaAppends
namespace Go.Port
open Go.RowKit

def costT (s : Sq) : Int := 12 + logI s.off - 8 * s.len
theorem costGo_some (l : List Sq) : ∀ left price A : Int, costGoM left price l = some A → A = price + (l.map costT).sum := by
  induction l with
  | nil => intro left price A h; simp only [costGoM, Option.some.injEq] at h; simp; omega
  | cons s r ih =>
    intro left price A h
    simp only [costGoM] at h
    split at h
    · cases h
    · have := ih _ _ _ h
      simp only [List.map_cons, List.sum_cons]
      unfold costT at this ⊢
      omega
theorem costGo_good (l : List Sq) : ∀ left price A : Int, costGoM left price l = some A → ∀ s ∈ l, 3 ≤ s.len ∧ s.len ≤ left := by
  induction l with
  | nil => intro left price A _ s hs; cases hs
  | cons x r ih =>
    intro left price A h s hs
    simp only [costGoM] at h
    split at h
    · cases h
    · rename_i hb
      simp only [seqBad, Bool.or_eq_true, decide_eq_true_eq] at hb
      rcases List.mem_cons.1 hs with rfl | hs
      · omega
      · have := ih _ _ _ h s hs
        omega
theorem costGo_take (k : Nat) (l : List Sq) : ∀ left price A : Int, costGoM left price l = some A → ∃ D, costGoM left price (l.take k) = some D := by
  induction k generalizing l with
  | zero => intro left price A _; exact ⟨price, by simp [costGoM]⟩
  | succ k ih =>
    intro left price A h
    cases l with
    | nil => exact ⟨price, rfl⟩
    | cons x r =>
      simp only [costGoM] at h
      simp only [List.take_succ_cons, costGoM]
      split at h
      · cases h
      · rename_i hb
        rw [if_neg hb]
        exact ih r _ _ _ h
theorem sum_set (l : List Sq) : ∀ (k : Nat) (s s' : Sq), l[k]? = some s → ((l.set k s').map costT).sum = (l.map costT).sum - costT s + costT s' := by
  induction l with
  | nil => intro k s s' h; simp at h
  | cons x r ih =>
    intro k s s' h
    cases k with
    | zero =>
      simp only [List.getElem?_cons_zero, Option.some.injEq] at h
      subst h
      simp only [List.set_cons_zero, List.map_cons, List.sum_cons]
      omega
    | succ k =>
      simp only [List.getElem?_cons_succ] at h
      have := ih k s s' h
      simp only [List.set_cons_succ, List.map_cons, List.sum_cons]
      omega
theorem sum_bd (l : List Sq) (h : ∀ s ∈ l, -1000000 ≤ costT s ∧ costT s ≤ 50) : -1000000 * (l.length : Int) ≤ (l.map costT).sum ∧ (l.map costT).sum ≤ 50 * (l.length : Int) := by
  induction l with
  | nil => simp
  | cons x r ih =>
    have h1 := h x (by simp)
    have h2 := ih (fun s hs => h s (by simp [hs]))
    simp only [List.map_cons, List.sum_cons, List.length_cons]
    omega
theorem costM_facts {size : Int} {l : List Sq} {A : Int} (h0 : 0 ≤ size) (h1 : size ≤ 100000) (hl : l.length ≤ 60) (hin : ∀ s ∈ l, InSq s) (h : costM size l = some A) :
    A = 8 * size + (l.map costT).sum ∧ (∀ s ∈ l, 3 ≤ s.len ∧ s.len ≤ size) ∧ -60000000 ≤ A ∧ A ≤ 803000 ∧ ∀ k : Nat, k ≤ l.length → ∃ D, costM size (l.take k) = some D ∧ D ≤ 8 * size + 50 * k ∧ -60000000 ≤ D := by
  unfold costM at h
  rw [if_neg (by omega)] at h
  have e1 := costGo_some l _ _ _ h
  have e2 := costGo_good l _ _ _ h
  have hT : ∀ s ∈ l, -1000000 ≤ costT s ∧ costT s ≤ 50 := fun s hs => by
    have a1 := e2 s hs
    have a2 := logI_le (hin s hs).2.2.2
    unfold costT
    omega
  have e3 := sum_bd l hT
  refine ⟨e1, e2, by omega, by omega, fun k hk => ?_⟩
  obtain ⟨D, hD⟩ := costGo_take k l _ _ _ h
  have e4 := costGo_some _ _ _ _ hD
  have e5 := sum_bd (l.take k) (fun s hs => hT s (List.mem_of_mem_take hs))
  rw [List.length_take, Nat.min_eq_left hk] at e5
  refine ⟨D, by unfold costM; rw [if_neg (by omega)]; exact hD, by omega, by omega⟩
theorem set_take_get {α : Type} {cs : List α} {m i j : Nat} {x u : α} (h : ((cs.take m).set i x)[j]? = some u) : (cs.set i x)[j]? = some u := by
  rw [List.getElem?_set] at h ⊢
  split at h
  · rename_i e
    subst e
    rw [if_pos rfl]
    split at h
    · rename_i h1
      rw [List.length_take] at h1
      rw [if_pos (by omega)]
      exact h
    · cases h
  · rename_i e
    rw [if_neg e]
    rw [List.getElem?_take] at h
    split at h
    · exact h
    · cases h
theorem sqc_set (l : List Sq) : ∀ (k : Nat) (x y z y' : Int), l[k]? = some ⟨x, y, z⟩ → (l.set k ⟨x, y', z⟩).flatMap sqc = (l.flatMap sqc).set (k * 3 + 1) (.int .i64 y') := by
  induction l with
  | nil => intro k x y z y' h; simp at h
  | cons s r ih =>
    intro k x y z y' h
    cases k with
    | zero =>
      simp only [List.getElem?_cons_zero, Option.some.injEq] at h
      subst h
      simp [sqc]
    | succ k =>
      simp only [List.getElem?_cons_succ] at h
      have := ih k x y z y' h
      rw [List.set_cons_succ, List.flatMap_cons, this, List.flatMap_cons, show (k + 1) * 3 + 1 = (k * 3 + 1) + 1 + 1 + 1 by omega]
      simp [sqc]
end Go.Port
namespace Go.Proofs.Ytaoiaiddamnbiaa
open Go.RowKit Go.Port

set_option maxRecDepth 100000 in
set_option maxHeartbeats 4000000 in
theorem MatchSaves_walk (w : World) (size : Int) (hs : -9223372036854775808 ≤ size ∧ size ≤ 9223372036854775807) (v : Value) (l : List Sq) (hv : Rs w 3 v l.length (l.flatMap sqc)) (hin : ∀ s ∈ l, InSq s) (pos : Int) (hp : -9223372036854775808 ≤ pos ∧ pos ≤ 9223372036854775807) (more : Int) (hm : -9223372036854775808 ≤ more ∧ more ≤ 9223372036854775807) :
    Calls Try.prog 8 #[.int .i64 size, v, .int .i64 pos, .int .i64 more] w (RetV w (.bool true)) := by
  obtain ⟨_, a, c, rfl, hnc, hcm, hac, hcell⟩ := hv
  have HW := hid works_any
  by_cases q1 : size < 0
  · clear hcell hin
    go_enter Try.func8, Try.ntmps8
    go_wp2_with (go_at_call 11; refine (HW.out _).mono ?_; rintro e w' ⟨rfl, hb⟩)
    go_ret
    exact ⟨rfl, hb⟩
  by_cases q2 : 100000 < size
  · clear hcell hin
    go_enter Try.func8, Try.ntmps8
    go_wp2_with (go_at_call 11; refine (HW.out _).mono ?_; rintro e w' ⟨rfl, hb⟩)
    go_ret
    exact ⟨rfl, hb⟩
  by_cases q3 : 60 < l.length
  · clear hcell hin
    go_enter Try.func8, Try.ntmps8
    go_wp2_with (go_at_call 11; refine (HW.out _).mono ?_; rintro e w' ⟨rfl, hb⟩)
    go_ret
    exact ⟨rfl, hb⟩
  by_cases q4 : pos < 0
  · clear hcell hin
    go_enter Try.func8, Try.ntmps8
    go_wp2_with (go_at_call 11; refine (HW.out _).mono ?_; rintro e w' ⟨rfl, hb⟩)
    go_ret
    exact ⟨rfl, hb⟩
  by_cases q5 : (l.length : Int) ≤ pos
  · clear hcell hin
    go_enter Try.func8, Try.ntmps8
    go_wp2_with (go_at_call 11; refine (HW.out _).mono ?_; rintro e w' ⟨rfl, hb⟩)
    go_ret
    exact ⟨rfl, hb⟩
  by_cases q6 : more < 0
  · clear hcell hin
    go_enter Try.func8, Try.ntmps8
    go_wp2_with (go_at_call 11; refine (HW.out _).mono ?_; rintro e w' ⟨rfl, hb⟩)
    go_ret
    exact ⟨rfl, hb⟩
  by_cases q7 : 100000 < more
  · clear hcell hin
    go_enter Try.func8, Try.ntmps8
    go_wp2_with (go_at_call 11; refine (HW.out _).mono ?_; rintro e w' ⟨rfl, hb⟩)
    go_ret
    exact ⟨rfl, hb⟩
  obtain ⟨k, rfl⟩ : ∃ k : Nat, pos = (k : Int) := ⟨pos.toNat, by omega⟩
  have hk : k < l.length := by omega
  obtain ⟨s, hx⟩ : ∃ s, l[k]? = some s := ⟨l[k], by simp [hk]⟩
  have HL := hid (fun W (hW : Below w.heap.size w W) => at_same hcell hW)
  have HIN := hid hin
  have hl60 : l.length ≤ 60 := by omega
  have HC := hid (cost_any a c size l w (by omega) (by omega) (by omega) hin hcell)
  clear hcell
  cases ho : costM size l with
  | none =>
    rw [ho] at HC
    unfold costR at HC
    dsimp only [Option.getD, Option.isSome] at HC
    clear ho hx hin
    go_enter Try.func8, Try.ntmps8
    go_wp2_with fail
    refine HC.out.mono ?_
    rintro e w1 ⟨rfl, hb1⟩
    have HB1 := hid hb1
    clear hb1
    go_wp2_with fail
    refine (num_any _ _).mono ?_
    rintro e w' ⟨rfl, rfl⟩
    go_wp2_with fail
    refine (HW.out _).mono ?_
    rintro e w6 ⟨rfl, hb6⟩
    go_wp2
    go_ret
    exact ⟨rfl, HB1.out.trans (hb6.mono HB1.out.size)⟩
  | some A =>
    rw [ho] at HC
    unfold costR at HC
    dsimp only [Option.getD, Option.isSome] at HC
    obtain ⟨hA, hgood, hA1, hA2, hpre⟩ := costM_facts (by omega) (by omega) (by omega) hin ho
    obtain ⟨D, hD, hD1, hD2⟩ := hpre k (by omega)
    have hsl := hgood s (List.mem_of_getElem? hx)
    obtain ⟨sx, sy, sz⟩ := s
    dsimp only at hsl
    have hsin := hin _ (List.mem_of_getElem? hx)
    have hin2 : ∀ s ∈ l.set k ⟨sx, sy + more, sz⟩, InSq s := fun s hs => by
      rcases List.mem_or_eq_of_mem_set hs with h | h
      · exact hin s h
      · rw [h]
        refine ⟨hsin.1, ⟨?_, ?_⟩, hsin.2.2⟩
        · show (-9223372036854775808 : Int) ≤ sy + more; omega
        · show sy + more ≤ (9223372036854775807 : Int); omega
    have hB2 : ∀ B, costM size (l.set k ⟨sx, sy + more, sz⟩) = some B → B = A - 8 * more := fun B hB => by
      have e1 := (costM_facts (by omega) (by omega) (by simpa using hl60) hin2 hB).1
      have e2 := sum_set l k ⟨sx, sy, sz⟩ ⟨sx, sy + more, sz⟩ hx
      unfold costT at e2
      dsimp only at e2
      unfold costT at e1 hA
      omega
    have HB2 := hid hB2
    have HI2 := hid hin2
    have HSET := hid (sqc_set l k sx sy sz (sy + more) hx)
    have HX1 := hid (sqc_get hx 1 (by omega))
    have HT := hid (fun W (hW : Below w.heap.size w W) => (show Calls Try.prog 20 #[.int .i64 size, .slice a k c] W (RetV W (.tuple #[.int .i64 D, .int .i64 0])) from by
      have h := cost_any a c size (l.take k) W (by omega) (by omega) (by rw [List.length_take]; omega) (fun s hs => HIN.out s (List.mem_of_mem_take hs)) (fun j u hu => HL.out W hW j u (by
        have h1 : (l.take k).flatMap sqc = (l.flatMap sqc).take (k * 3) := by
          have h2 : l.flatMap sqc = (l.take k).flatMap sqc ++ (l.drop k).flatMap sqc := by rw [← List.flatMap_append, List.take_append_drop]
          have h3 : ((l.take k).flatMap sqc).length = k * 3 := by rw [sqc_length, List.length_take, Nat.min_eq_left (Nat.le_of_lt hk)]
          rw [h2, ← h3, List.take_left']
          rfl
        rw [h1, List.getElem?_take] at hu
        split at hu
        · exact hu
        · cases hu))
      rw [hD, List.length_take, Nat.min_eq_left (Nat.le_of_lt hk)] at h
      exact h))
    have HN := hid (fun W => (show Calls Try.prog 20 #[.int .i64 size, .slice none 0 0] W (RetV W (.tuple #[.int .i64 (8 * size), .int .i64 0])) from by
      have h := cost_any none 0 size [] W (by omega) (by omega) (by simp) (fun s hs => by cases hs) (fun j u hu => by simp at hu)
      have e : costM size [] = some (8 * size) := by unfold costM; rw [if_neg (by omega)]; rfl
      rw [e] at h
      exact h))
    clear ho hx hgood hpre hD hin hin2 hB2 hsin hA
    go_enter Try.func8, Try.ntmps8
    go_wp2_with fail
    refine HC.out.mono ?_
    rintro e w1 ⟨rfl, hb1⟩
    have HB1 := hid hb1
    clear hb1
    go_wp2_with fail
    refine (num_any _ _).mono ?_
    rintro e w' ⟨rfl, rfl⟩
    go_wp2_with (at_builtin; refine Hid.out ?_)
    refine hid ?_
    refine wpList_appendsK rfl _ _ 32 rfl 28 _ 3 24 Try.underlying32 Try.info_seq rfl (by decide) (by decide) _ w1.heap.size _ 0 l.length c a [] (l.flatMap sqc) (sqc_length l) ?hu rfl rfl hnc hac (by exact HL.out _ (HB1.out.alloc HB1.out.size _)) (by exact own_emptyK 3 (Nat.le_refl _)) ?hn ?hb ?hk
    case hu =>
      intro u hu
      obtain ⟨x, _, h1⟩ := List.mem_flatMap.1 hu
      simp only [sqc, List.mem_cons, List.not_mem_nil, or_false] at h1
      rcases h1 with rfl | rfl | rfl <;> rfl
    case hn => omega
    case hb => simp
    case hk =>
      intro v' w2 hown hg
      rw [List.nil_append, Nat.zero_add] at hown
      have hB := (below_new w1 (.cells #[] 28)).grown hg (by simp) (fun k hk => ((own_emptyK (e := 28) 3 (Nat.le_refl w1.heap.size)).lt k hk).1)
      obtain ⟨g, cap, cs, rfl, hbg, hncap, hcapm, hblk, hcs⟩ := own_blk hown (by omega)
      have HBW := hid (HB1.out.trans (hB.mono HB1.out.size))
      have hwb : w.heap.size ≤ g := Nat.le_trans HB1.out.size hbg
      have p1 : w2.cell? ⟨g, 0 + k * 3 + 1, none⟩ = some (.int .i64 sy) := by
        rw [Nat.zero_add]
        refine hblk.cell ?_
        have h1 := HX1.out
        rw [← hcs, List.getElem?_take] at h1
        split at h1
        · exact h1
        · omega
      have z1 := hblk.frozen (0 + k * 3 + 1)
      have HW3 := hid (hblk.set (k * 3 + 1) (.int .i64 (sy + more)))
      have HBW3 := hid (HBW.out.setCell (p := ⟨g, k * 3 + 1, none⟩) hwb (.int .i64 (sy + more)))
      have HCS := hid hcs
      have hwm : IntKind.i64.wrap (sy + more) = sy + more := by rw [IntKind.wrap_i64]; omega
      have hkI : (k : Int) < (l.length : Int) := by omega
      clear hown hg hB hblk hcs
      rw [Nat.zero_add] at p1 z1
      have HK := hid (show Calls Try.prog 20 #[.int .i64 size, .slice (some ⟨g, 0, none⟩) l.length cap] (w2.setCell ⟨g, k * 3 + 1, none⟩ (.int .i64 (sy + more))) (RetV (w2.setCell ⟨g, k * 3 + 1, none⟩ (.int .i64 (sy + more))) (costR (costM size (l.set k ⟨sx, sy + more, sz⟩)))) from by
        have h := cost_any (some ⟨g, 0, none⟩) cap size (l.set k ⟨sx, sy + more, sz⟩) (w2.setCell ⟨g, k * 3 + 1, none⟩ (.int .i64 (sy + more))) (by omega) (by omega) (by rw [List.length_set]; omega) HI2.out (fun j u hu => ⟨g, 0, rfl, HW3.out.lt, by
          rw [Nat.zero_add]
          refine HW3.out.cell ?_
          rw [HSET.out, ← HCS.out] at hu
          exact set_take_get hu⟩)
        rw [List.length_set] at h
        exact h)
      have hw8 : IntKind.i64.wrap (8 * more) = 8 * more := by rw [IntKind.wrap_i64]; omega
      have hw9 : IntKind.i64.wrap (A - 8 * more) = A - 8 * more := by rw [IntKind.wrap_i64]; omega
      have hw10 : IntKind.i64.wrap (8 * size) = 8 * size := by rw [IntKind.wrap_i64]; omega
      have hw11 : IntKind.i64.wrap (50 * (k : Int)) = 50 * (k : Int) := by rw [IntKind.wrap_i64]; omega
      have hw12 : IntKind.i64.wrap (8 * size + 50 * (k : Int)) = 8 * size + 50 * (k : Int) := by rw [IntKind.wrap_i64]; omega
      have hkc : (k : Int) ≤ (c : Int) := by omega
      cases hB : costM size (l.set k ⟨sx, sy + more, sz⟩) with
      | none =>
        rw [hB] at HK
        unfold costR at HK
        dsimp only [Option.getD, Option.isSome] at HK
        clear hB
        go_wp2_with fail
        refine HK.out.mono ?_
        rintro e w4 ⟨rfl, hb4⟩
        have HB4 := hid (HBW3.out.trans (hb4.mono HBW3.out.size))
        clear hb4
        go_wp2_with fail
        refine (num_any _ _).mono ?_
        rintro e w' ⟨rfl, rfl⟩
        go_wp2_with fail
        refine (HN.out _).mono ?_
        rintro e w5 ⟨rfl, hb5⟩
        have HB5 := hid (HB4.out.trans (hb5.mono HB4.out.size))
        clear hb5
        go_wp2_with fail
        refine (HT.out _ HB5.out).mono ?_
        rintro e w6 ⟨rfl, hb6⟩
        have HB6 := hid (HB5.out.trans (hb6.mono HB5.out.size))
        clear hb6
        go_wp2_with fail
        refine (num_any _ _).mono ?_
        rintro e w' ⟨rfl, rfl⟩
        go_wp2_with fail
        refine (num_any _ _).mono ?_
        rintro e w' ⟨rfl, rfl⟩
        go_wp2_with fail
        refine (HW.out _).mono ?_
        rintro e w7 ⟨rfl, hb7⟩
        go_wp2
        go_ret
        exact ⟨rfl, HB6.out.trans (hb7.mono HB6.out.size)⟩
      | some B =>
        obtain rfl : B = A - 8 * more := HB2.out B hB
        rw [hB] at HK
        unfold costR at HK
        dsimp only [Option.getD, Option.isSome] at HK
        clear hB
        go_wp2_with fail
        refine HK.out.mono ?_
        rintro e w4 ⟨rfl, hb4⟩
        have HB4 := hid (HBW3.out.trans (hb4.mono HBW3.out.size))
        clear hb4
        go_wp2_with fail
        refine (num_any _ _).mono ?_
        rintro e w' ⟨rfl, rfl⟩
        go_wp2_with fail
        refine (HN.out _).mono ?_
        rintro e w5 ⟨rfl, hb5⟩
        have HB5 := hid (HB4.out.trans (hb5.mono HB4.out.size))
        clear hb5
        go_wp2_with fail
        refine (HT.out _ HB5.out).mono ?_
        rintro e w6 ⟨rfl, hb6⟩
        have HB6 := hid (HB5.out.trans (hb6.mono HB5.out.size))
        clear hb6
        go_wp2_with fail
        refine (num_any _ _).mono ?_
        rintro e w' ⟨rfl, rfl⟩
        go_wp2_with fail
        refine (num_any _ _).mono ?_
        rintro e w' ⟨rfl, rfl⟩
        go_wp2_with fail
        refine (HW.out _).mono ?_
        rintro e w7 ⟨rfl, hb7⟩
        go_wp2
        go_ret
        exact ⟨rfl, HB6.out.trans (hb7.mono HB6.out.size)⟩
end Go.Proofs.Ytaoiaiddamnbiaa
namespace Go.Proofs.Ytaoiaiddamnbiaa.LMatchSaves
open Go.ChangeShapes Go.WideShapes Go.ChangeAt Go.RowKit Go.Port

set_option maxRecDepth 100000 in
theorem lifted (os : Os) (started : os.Started) (H : Type) (enc : TypeId × Value → H) :
    ReturnsInHanded {} Try.checked os 8 .any (Rows.matchSavesSpec.pre6 enc Try.prog Try.f8 Rows.matchSavesRow.domain false) (Rows.matchSavesSpec.post enc Try.prog Try.f8 false true false false) := by
  refine returnsInHanded_of_change (C := Try.checked) Try.own started (by kernel_rfl) Try.func8
    (ChangeSpec.witness6 (enc := enc) (C := Try.checked) false ⟨#[], #[.int .i64 0, .slice none 0 0, .int .i64 0, .int .i64 0], []⟩ 8 (by kernel_rfl) (by kernel_rfl) (by kernel_rfl) (by kernel_rfl)) ?_
  intro W base args ds gs before hval0 hW hcnd _
  have hval : ∀ (j : Nat) t v, Try.f8.params[j]? = some t → args[j]? = some v → Value.okWide Try.prog W .any base t v := hval0
  have hW' := hW
  obtain ⟨p, q, hA0, hV, rfl, hfz, hnd⟩ := hW
  have hA : DataW.TrodAll enc Try.prog W 0 (fun _ => true) true Try.f8.params.toList args.toList ds p := hA0
  rw [Try.params8] at hA hval
  obtain ⟨v0, vs0, d0, ds0, p0, q0, hargs, rfl, rfl, h0, r0⟩ := trodAll_cons hA
  obtain ⟨v1, vs1, d1, ds1, p1, q1, rfl, rfl, rfl, h1, r1⟩ := trodAll_cons r0
  obtain ⟨v2, vs2, d2, ds2, p2, q2, rfl, rfl, rfl, h2, r2⟩ := trodAll_cons r1
  obtain ⟨v3, vs3, d3, ds3, p3, q3, rfl, rfl, rfl, h3, r3⟩ := trodAll_cons r2
  obtain ⟨rfl, rfl, rfl⟩ := trodAll_nil r3
  obtain rfl : args = #[v0, v1, v2, v3] := by cases args; simp_all
  obtain ⟨rfl, rfl⟩ := trodVars_none hV
  obtain ⟨a0, rfl, rfl, rfl, w0⟩ := open_int Try.underlying3 (hval 0 3 v0 rfl rfl) h0
  obtain ⟨l1, hl1, wl1⟩ := open_seqs (hval 1 32 v1 rfl rfl) h1
  obtain ⟨a2, rfl, rfl, rfl, w2⟩ := open_int Try.underlying3 (hval 2 3 v2 rfl rfl) h2
  obtain ⟨a3, rfl, rfl, rfl, w3⟩ := open_int Try.underlying3 (hval 3 3 v3 rfl rfl) h3
  clear hA0 hval0
  simp only [List.append_nil] at hW'
  refine (MatchSaves_walk W a0 (bounds_i64 w0) v1 l1 hl1 wl1 a2 (bounds_i64 w2) a3 (bounds_i64 w3)).mono fun e W' ⟨he, hb⟩ => ?_
  subst he
  exact ⟨_, rfl, law_post Try.kids Try.full Try.underlying4 rfl rfl hW' (by rw [Try.params8]; decide) rfl rfl rfl hb⟩

theorem over : Rows.matchSavesRow.holds Try.pinned (OpenSpec.ofChange Rows.matchSavesSpec) :=
  OpenClaim.holds_of_wide 8 Try.f8 rfl rfl rfl rfl rfl rfl rfl ⟨rfl, rfl, rfl, rfl, rfl⟩ rfl rfl rfl rfl rfl (by kernel_rfl) Try.func8 (by kernel_rfl)
    (of_decide_eq_true (by kernel_rfl)) (by unfold Func.isWrapper; first | (rw [if_pos (by decide +kernel)]; kernel_rfl) | (rw [if_neg (by decide +kernel)]; exact ⟨rfl, rfl⟩))
    (fun os started H enc _ => lifted os started H enc)

/-- The statement. -/
theorem proved : Rows.MatchSavesSaid :=
  over
end Go.Proofs.Ytaoiaiddamnbiaa.LMatchSaves
