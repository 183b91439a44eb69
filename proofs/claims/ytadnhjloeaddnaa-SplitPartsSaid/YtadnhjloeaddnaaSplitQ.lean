/-
  The walks of the split, seventeenth part: the reference's parts, and what they cost.
-/
import Derived.Test.YtadnhjloeaddnaaSplitP
namespace Go.Port
open Go.RowKit

/-- The parts as pairs of offsets. -/
def ptsGo : Nat → List Nat → List (Nat × Nat)
  | _, [] => []
  | T, X :: r => (T, X) :: ptsGo X r
theorem ptsGo_snoc (l : List Nat) (T x : Nat) : ptsGo T (l ++ [x]) = ptsGo T l ++ [(l.getLastD T, x)] := by
  induction l generalizing T with
  | nil => rfl
  | cons y r ih =>
    simp only [List.cons_append, ptsGo, ih]
    rw [List.getLastD_cons]
theorem ptsGo_length (l : List Nat) (T : Nat) : (ptsGo T l).length = l.length := by
  induction l generalizing T with
  | nil => rfl
  | cons y r ih => simp [ptsGo, ih]
theorem worth_pts (bs : List UInt8) (l : List Nat) (T : Nat) : worthGo bs T (l.map fun (x : Nat) => (x : Int)) = ((ptsGo T l).map fun p => partS (seg bs p.1 p.2)).sum := by
  induction l generalizing T with
  | nil => rfl
  | cons y r ih => simp only [List.map_cons, worthGo, ptsGo, Int.toNat_natCast, List.sum_cons, ih]

/-- Rising cut points are natural numbers; each lies behind the one before. -/
theorem rise_nat (S : Nat) : ∀ (cuts : List Int) (last : Nat), riseB S last cuts = true → ∃ cs : List Nat, cuts = (cs.map fun (x : Nat) => (x : Int)) ∧ ∀ (k : Nat) (x : Nat), cs[k]? = some x → (cs.take k).getLastD last < x ∧ x < S
  | [], _, _ => ⟨[], rfl, fun k x h => by simp at h⟩
  | c :: r, last, h => by
    rw [riseB] at h
    simp only [Bool.and_eq_true, decide_eq_true_eq] at h
    obtain ⟨C, rfl⟩ : ∃ C : Nat, c = (C : Int) := ⟨c.toNat, by omega⟩
    obtain ⟨cs, rfl, h2⟩ := rise_nat S r C h.2
    refine ⟨C :: cs, rfl, fun k x hx => ?_⟩
    cases k with
    | zero =>
      simp only [List.getElem?_cons_zero, Option.some.injEq] at hx
      subst hx
      simp only [List.take_zero, List.getLastD_nil]
      omega
    | succ k =>
      rw [List.getElem?_cons_succ] at hx
      rw [List.take_succ_cons, List.getLastD_cons]
      exact h2 k x hx

theorem ptsGo_get (l : List Nat) (T k : Nat) (p : Nat × Nat) (h : (ptsGo T l)[k]? = some p) : l[k]? = some p.2 ∧ p.1 = (l.take k).getLastD T := by
  induction l generalizing T k with
  | nil => simp [ptsGo] at h
  | cons y r ih =>
    rw [ptsGo] at h
    cases k with
    | zero =>
      simp only [List.getElem?_cons_zero, Option.some.injEq] at h
      subst h
      exact ⟨rfl, rfl⟩
    | succ k =>
      rw [List.getElem?_cons_succ] at h
      rw [List.getElem?_cons_succ, List.take_succ_cons, List.getLastD_cons]
      exact ih y k h
theorem pts_bounds {n : Nat} {cs : List Nat} (hn : 0 < n) (hr : ∀ (k : Nat) (x : Nat), cs[k]? = some x → (cs.take k).getLastD 0 < x ∧ x < n) (k : Nat) (p : Nat × Nat) (h : (ptsGo 0 (cs ++ [n]))[k]? = some p) : p.1 < p.2 ∧ p.2 ≤ n := by
  obtain ⟨h1, h2⟩ := ptsGo_get _ _ _ _ h
  rcases Nat.lt_or_ge k cs.length with hk | hk
  · rw [List.getElem?_append_left hk] at h1
    rw [List.take_append_of_le_length (by omega)] at h2
    have := hr k p.2 h1
    omega
  · have hk2 : k = cs.length := by
      have := (List.getElem?_eq_some_iff.1 h1).1
      simp at this
      omega
    subst hk2
    rw [List.getElem?_append_right (Nat.le_refl _), Nat.sub_self] at h1
    simp only [List.getElem?_cons_zero, Option.some.injEq] at h1
    rw [List.take_append_of_le_length (Nat.le_refl _), List.take_length] at h2
    refine ⟨?_, by omega⟩
    rw [h2, ← h1]
    cases hl : cs.reverse with
    | nil =>
      have : cs = [] := by simpa using hl
      subst this
      simpa using hn
    | cons x r =>
      have hcs : cs = r.reverse ++ [x] := by
        have := congrArg List.reverse hl
        simpa using this
      have := hr r.length x (by rw [hcs]; simp)
      rw [hcs]
      simpa using this.2
theorem sum_parts_nonneg (bs : List UInt8) (l : List (Nat × Nat)) : 0 ≤ (l.map fun p => partS (seg bs p.1 p.2)).sum := by
  induction l with
  | nil => simp
  | cons p r ih =>
    have := partS_nonneg (seg bs p.1 p.2)
    simp only [List.map_cons, List.sum_cons]
    omega

/-- A part as a slice of the data at b0, off0, of capacity c. -/
def pvOf (b0 off0 c : Nat) (p : Nat × Nat) : Value := .slice (some ⟨b0, off0 + p.1, none⟩) (p.2 - p.1) (c - p.1)
end Go.Port
namespace Go.Proofs.Ytadnhjloeaddnaa
open Go.RowKit Go.Port

theorem Try.info_bytes : (Try.prog.info? 25).map (fun i => (i.zero, i.size, i.bytes)) = some (some (.slice none 0 0), 1, 24) := by kernel_rfl

theorem rparts_nil (a a2 : Option Addr) (c c2 : Nat) (w : World) : Calls Try.prog 28 #[.slice a 0 c, .slice a2 0 c2] w fun e w' => e = .returned (.slice none 0 0) ∧ w = w' := by
  go_enter Try.func28, Try.ntmps28
  go_wp2
  refine wp_loop_rounds 1 ?_
  rw [rounds_succ]
  go_wp2
  go_ret
  exact ⟨rfl, rfl⟩

set_option maxRecDepth 100000 in
set_option maxHeartbeats 2000000 in
theorem rparts_any (b0 off0 n c : Nat) (a2 : Option Addr) (n2 c2 : Nat) (cs : List Nat) (w : World) (hn0 : 0 < n) (hnc : n ≤ c) (hcs : cs.length = n2) (hb2 : n2 ≤ 9000)
    (hrise : ∀ (k : Nat) (x : Nat), cs[k]? = some x → (cs.take k).getLastD 0 < x ∧ x < n)
    (hc2 : ∀ j u, ((cs.map fun (x : Nat) => (x : Int)).map iv)[j]? = some u → ∃ b off, a2 = some ⟨b, off, none⟩ ∧ b < w.heap.size ∧ w.cell? ⟨b, off + j, none⟩ = some u) :
    Calls Try.prog 28 #[.slice (some ⟨b0, off0, none⟩) n c, .slice a2 n2 c2] w fun e w' => ∃ v, e = .returned v ∧ w'.ownsRow w.heap.size 25 1 v (n2 + 1) ((ptsGo 0 (cs ++ [n])).map (pvOf b0 off0 c)) ∧ Below w.heap.size w w' := by
  have HC := hid hc2
  have HR := hid hrise
  have HL := hid hcs
  clear hc2 hrise hcs
  go_enter Try.func28, Try.ntmps28
  go_wp2
  go_loopw [5, 6, 7] (fun v t i wr => ∃ (k T : Nat), k ≤ n2 ∧ i = .int .i64 k ∧ t = .int .i64 T ∧ Hid ((cs.take k).getLastD 0 = T) ∧ T < n ∧ wr.ownsRow w.heap.size 25 1 v k ((ptsGo 0 (cs.take k)).map (pvOf b0 off0 c)) ∧ Below w.heap.size w wr) (fun _ _ i _ => n2 - (intOf i).toNat)
  case atStart => exact ⟨0, 0, Nat.zero_le _, rfl, rfl, hid rfl, hn0, World.ownsRow_nil _ _ _ _, Below.refl _ _⟩
  case round =>
    obtain ⟨k, T, hk, rfl, rfl, HT, hTn, hown, hB⟩ := hrel
    have hsz := hB.size
    by_cases hlt : k < n2
    · obtain ⟨X, hX⟩ : ∃ X, cs[k]? = some X := ⟨cs[k]'(by rw [HL.out]; exact hlt), by rw [List.getElem?_eq_getElem]⟩
      obtain ⟨hr1, hr2⟩ := HR.out k X hX
      rw [HT.out] at hr1
      obtain ⟨b, off, rfl, hb, hcell0⟩ := HC.out k (iv (X : Int)) (by rw [List.getElem?_map, List.getElem?_map, hX]; rfl)
      have hcell := (hB.cell (p := ⟨b, off + k, none⟩) hb).trans hcell0
      have htk : cs.take (k + 1) = cs.take k ++ [X] := by
        obtain ⟨h1, h2⟩ := List.getElem?_eq_some_iff.1 hX
        rw [List.take_succ_eq_append_getElem h1, h2]
      have HS := hid (show ptsGo 0 (cs.take (k + 1)) = ptsGo 0 (cs.take k) ++ [(T, X)] from by rw [htk, ptsGo_snoc, HT.out])
      have HT2 := hid (show (cs.take (k + 1)).getLastD 0 = X from by rw [htk]; simp)
      have HB := hid hb
      have HC0 := hid hcell0
      unfold iv at hcell
      clear hX htk hcell0 hb
      go_wp2_with (at_builtin; refine Hid.out ?_)
      refine hid ?_
      refine wpList_append1 rfl _ _ 49 rfl 25 _ 1 24 Try.underlying49 Try.info_bytes rfl (by decide) (by decide) _ w.heap.size _ _ _ _ rfl ?hu rfl rfl (by exact hown) ?hn ?hb ?hk
      case hu => simp [Value.oneCell']
      case hn => omega
      case hb => exact hsz
      case hk =>
        intro v' w1 hown' hg
        have hB' := hB.trans (below_grown hown hg hsz)
        have hcell := (hB'.cell (p := ⟨b, off + k, none⟩) HB.out).trans HC0.out
        unfold iv at hcell
        go_wp2
        go_roundw
        case rel => exact ⟨k + 1, X, by omega, by go_num, rfl, HT2, hr2, by rw [HS.out, List.map_append]; exact hown', hB'⟩
        case measure => simp [intOf]; omega
    · obtain rfl : k = n2 := by omega
      have htk : cs.take k = cs := List.take_of_length_le (by rw [HL.out]; exact Nat.le_refl _)
      rw [htk] at hown HT
      have HS := hid (show ptsGo 0 (cs ++ [n]) = ptsGo 0 cs ++ [(T, n)] from by rw [ptsGo_snoc, HT.out])
      clear htk
      go_wp2_with (at_builtin; refine Hid.out ?_)
      refine hid ?_
      refine wpList_append1 rfl _ _ 49 rfl 25 _ 1 24 Try.underlying49 Try.info_bytes rfl (by decide) (by decide) _ w.heap.size _ _ _ _ rfl ?hu rfl rfl (by exact hown) ?hn ?hb ?hk
      case hu => simp [Value.oneCell']
      case hn => omega
      case hb => exact hsz
      case hk =>
        intro v' w1 hown' hg
        have hB' := hB.trans (below_grown hown hg hsz)
        go_wp2
        go_ret
        exact ⟨_, rfl, by rw [HS.out, List.map_append]; exact hown', hB'⟩

set_option maxRecDepth 100000 in
set_option maxHeartbeats 2000000 in
theorem rworth_any (a a2 : Option Addr) (n c n2 c2 : Nat) (bs : List UInt8) (cuts : List Int) (w : World) (hnb : n2 ≤ 9000) (hn : bs.length = n) (hNb : n ≤ 200000) (hn2 : cuts.length = n2) (hnc : n ≤ c) (hac : a = none → c = 0)
    (hc : ∀ j u, (bs.map bv)[j]? = some u → ∃ b off, a = some ⟨b, off, none⟩ ∧ b < w.heap.size ∧ w.cell? ⟨b, off + j, none⟩ = some u)
    (hc2 : ∀ j u, (cuts.map iv)[j]? = some u → ∃ b off, a2 = some ⟨b, off, none⟩ ∧ b < w.heap.size ∧ w.cell? ⟨b, off + j, none⟩ = some u) :
    Calls Try.prog 15 #[.slice a n c, .slice a2 n2 c2] w (RetV w (.tuple #[.int .i64 (if riseB n 0 cuts = true then worthGo bs 0 (cuts ++ [(n : Int)]) else 0), .int .i64 (if riseB n 0 cuts = true then 0 else 2)])) := by
  cases hr : riseB (n : Int) 0 cuts with
  | false =>
    rw [if_neg (by simp), if_neg (by simp)]
    have HR := hid (rise_any (n : Int) false a2 n2 c2 cuts w hn2 (by unfold maxLen; omega) hc2 hr)
    clear hc hc2 hr hn hn2
    go_enter Try.func15, Try.ntmps15
    go_wp2_with (go_at_call 27; refine HR.out.mono ?_; rintro e w' ⟨rfl, rfl⟩)
    go_ret2
    exact ⟨rfl, Below.refl _ _⟩
  | true =>
    rw [if_pos rfl, if_pos rfl]
    have HR := hid (rise_any (n : Int) true a2 n2 c2 cuts w hn2 (by unfold maxLen; omega) hc2 hr)
    have hr' : riseB (n : Int) ((0 : Nat) : Int) cuts = true := hr
    obtain ⟨cs, rfl, hrise⟩ := rise_nat n cuts 0 hr'
    have hcl : cs.length = n2 := by simpa using hn2
    rcases Nat.eq_zero_or_pos n with h0 | h0
    · subst h0
      have : bs = [] := List.eq_nil_of_length_eq_zero hn
      subst this
      have hcs : cs = [] := by
        cases cs with
        | nil => rfl
        | cons x r =>
          have := hrise 0 x rfl
          omega
      subst hcs
      obtain rfl : n2 = 0 := by simpa using hcl.symm
      have HP := hid (rparts_nil a a2 c c2 w)
      clear hc hc2 hr hn hn2 hr' hrise hcl
      go_enter Try.func15, Try.ntmps15
      go_wp2_with (first
        | (go_at_call 27; refine HR.out.mono ?_; rintro e w' ⟨rfl, rfl⟩)
        | (go_at_call 28; refine HP.out.mono ?_; rintro e w' ⟨rfl, rfl⟩))
      refine wp_loop_rounds 1 ?_
      rw [rounds_succ]
      go_wp2
      go_ret2
      exact ⟨rfl, Below.refl _ _⟩
    · obtain ⟨b0, off0, rfl, hq1, hq2⟩ := hc 0 (bv (bs[0]'(by omega))) (by rw [List.getElem?_map, List.getElem?_eq_getElem (by omega)]; rfl)
      clear hq1 hq2
      have HP := hid (rparts_any b0 off0 n c a2 n2 c2 cs w h0 hnc hcl hnb hrise hc2)
      have hws := worth_small bs (cs.map fun (x : Nat) => (x : Int)) 0 (Nat.zero_le _) (by rw [hn]; exact hr)
      rw [hn, Nat.sub_zero] at hws
      have hwp := worth_pts bs (cs ++ [n]) 0
      rw [List.map_append] at hwp
      have hwp' : worthGo bs 0 ((cs.map fun (x : Nat) => (x : Int)) ++ [(n : Int)]) = ((ptsGo 0 (cs ++ [n])).map fun p => partS (seg bs p.1 p.2)).sum := hwp
      have hws' : worthGo bs 0 ((cs.map fun (x : Nat) => (x : Int)) ++ [(n : Int)]) ≤ 49152 * (n : Int) := hws
      have HPB := hid (pts_bounds h0 hrise)
      have hlen : (ptsGo 0 (cs ++ [n])).length = n2 + 1 := by rw [ptsGo_length]; simp [hcl]
      have HLen := hid hlen
      generalize ptsGo 0 (cs ++ [n]) = pts at *
      generalize worthGo bs 0 ((cs.map fun (x : Nat) => (x : Int)) ++ [(n : Int)]) = total at *
      have HT := hid hwp'
      have HC := hid hc
      have HN := hid hn
      clear hc hc2 hr hn hn2 hr' hrise hcl hwp hws hwp' hlen
      go_enter Try.func15, Try.ntmps15
      go_wp2_with (first
        | (go_at_call 27; refine HR.out.mono ?_; rintro e w' ⟨rfl, rfl⟩)
        | (go_at_call 28; refine HP.out.mono ?_; rintro e w1 ⟨v, rfl, hown, hB1⟩))
      obtain ⟨a1, c1, rfl, _, _, _, hcell⟩ := (Sl.of_owns hown).open
      have HO := hid hcell
      clear hown hcell
      go_loopw [7, 8] (fun s i wr => ∃ (k : Nat) (x : Int), k ≤ n2 + 1 ∧ i = .int .i64 k ∧ s = .int .i64 x ∧ 0 ≤ x ∧ x ≤ total ∧ Hid (x + ((pts.drop k).map fun p => partS (seg bs p.1 p.2)).sum = total) ∧ Below w1.heap.size w1 wr) (fun _ i _ => n2 + 1 - (intOf i).toNat)
      case atStart => exact ⟨0, 0, Nat.zero_le _, rfl, rfl, by omega, by rw [HT.out]; exact sum_parts_nonneg bs pts, hid (by rw [HT.out]; simp), Below.refl _ _⟩
      case round =>
        obtain ⟨k, x, hk, rfl, rfl, hx0, hx1, HX, hB⟩ := hrel
        by_cases hlt : k < n2 + 1
        · obtain ⟨⟨T, X⟩, hp⟩ : ∃ p, pts[k]? = some p := ⟨pts[k]'(by rw [HLen.out]; exact hlt), by rw [List.getElem?_eq_getElem]⟩
          obtain ⟨hTX, hXn⟩ := HPB.out k _ hp
          dsimp only at hTX hXn
          obtain ⟨b, off, rfl, hb, hcell0⟩ := HO.out k (pvOf b0 off0 c (T, X)) (by rw [List.getElem?_map, hp]; rfl)
          have hcell := (hB.cell (p := ⟨b, off + k, none⟩) hb).trans hcell0
          have hdr : pts.drop k = (T, X) :: pts.drop (k + 1) := by
            obtain ⟨h1, h2⟩ := List.getElem?_eq_some_iff.1 hp
            rw [List.drop_eq_getElem_cons h1, h2]
          have hX2 := HX.out
          rw [hdr, List.map_cons, List.sum_cons] at hX2
          have hp0 := partS_nonneg (seg bs T X)
          have hs0 := sum_parts_nonneg bs (pts.drop (k + 1))
          have hsum : x + partS (seg bs T X) ≤ total := by dsimp only at hX2; omega
          have HX2 := hid (show (x + partS (seg bs T X)) + ((pts.drop (k + 1)).map fun p => partS (seg bs p.1 p.2)).sum = total from by dsimp only at hX2; omega)
          have hsl : (seg bs T X).length = X - T := seg_length bs T X (by rw [HN.out]; exact hXn)
          have HPt := hid (rpart_any (some ⟨b0, off0 + T, none⟩) (X - T) (c - T) (seg bs T X) wr hsl (by unfold maxLen; omega) (fun j u hu => by
            have hj : j < X - T := by
              have := (List.getElem?_eq_some_iff.1 hu).1
              rwa [List.length_map, hsl] at this
            obtain ⟨b', off', he, hb1, hb2⟩ := HC.out (T + j) u (by
              rw [List.getElem?_map] at hu ⊢
              unfold seg at hu
              rw [List.getElem?_take_of_lt hj, List.getElem?_drop] at hu
              exact hu)
            simp only [Option.some.injEq, Addr.mk.injEq, and_true] at he
            obtain ⟨rfl, rfl⟩ := he
            refine ⟨b0, off0 + T, rfl, Nat.lt_of_lt_of_le hb1 (Nat.le_trans hB1.size hB.size), ?_⟩
            rw [Nat.add_assoc]
            exact ((hB1.trans (hB.mono hB1.size)).cell (p := ⟨b0, off0 + (T + j), none⟩) hb1).trans hb2))
          unfold pvOf at hcell
          dsimp only at hcell
          clear hdr hX2 hsl hp hcell0
          have tk : (k : Int) < (n2 : Int) + 1 := by omega
          go_wp2_with (go_at_call 26; refine HPt.out.mono ?_; rintro e w2 ⟨rfl, hb2⟩)
          go_roundw
          case rel => exact ⟨k + 1, _, by omega, by go_num, rfl, by omega, hsum, HX2, hB.trans (hb2.mono hB.size)⟩
          case measure => simp [intOf]; omega
        · obtain rfl : k = n2 + 1 := by omega
          have hX2 := HX.out
          rw [List.drop_of_length_le (by rw [HLen.out]; exact Nat.le_refl _), List.map_nil, List.sum_nil, Int.add_zero] at hX2
          subst hX2
          go_wp2
          go_ret2
          exact ⟨rfl, hB1.trans (hB.mono hB1.size)⟩
end Go.Proofs.Ytadnhjloeaddnaa
