/-
  Reference 22: where a plan's sequences start, its size, its literals.
-/
import Derived.Test.YtiagbejfghincaaGreatY17
import Derived.Deep.QuietTactic
namespace Go.Port
open Go.RowKit
theorem planEnd_app : ∀ (p q : List Sq) (a m : Int), planEnd a p = some m → planEnd a (p ++ q) = planEnd m q := by
  intro p
  induction p with
  | nil => intro q a m h; simp only [planEnd, Option.some.injEq] at h; subst h; rfl
  | cons s r ih =>
    intro q a m h
    have e : ∀ t, planEnd a (s :: t) = if linB s a = true then planEnd (a + s.lit + s.len) t else none := fun _ => rfl
    rw [List.cons_append, e]
    rw [e] at h
    split at h
    · rename_i hs
      rw [if_pos hs]
      exact ih q _ m h
    · cases h
theorem planEnd_good {l : List Sq} {k : Nat} {s : Sq} {P : Int} (hk : l[k]? = some s) (hp : planEnd 0 (l.take k) = some P) (hs : linB s P = true) : planEnd 0 (l.take (k + 1)) = some (P + s.lit + s.len) := by
  obtain ⟨h1, h2⟩ := List.getElem?_eq_some_iff.1 hk
  rw [List.take_succ_eq_append_getElem h1, h2, planEnd_app _ _ _ _ hp]
  unfold planEnd
  rw [if_pos hs]
  rfl
theorem planEnd_poor {l : List Sq} {k : Nat} {s : Sq} {P : Int} (hk : l[k]? = some s) (hp : planEnd 0 (l.take k) = some P) (hs : linB s P = false) : planEnd 0 l = none := by
  obtain ⟨h1, h2⟩ := List.getElem?_eq_some_iff.1 hk
  have e2 : l = l.take k ++ s :: l.drop (k + 1) := by rw [← h2, ← List.drop_eq_getElem_cons h1, List.take_append_drop]
  rw [e2, planEnd_app _ _ _ _ hp]
  unfold planEnd
  rw [if_neg (by rw [hs]; decide)]
end Go.Port
namespace Go.Proofs.YtiagbejfghincaaGreat
open Go.RowKit Go.Port
theorem own_neT {w : World} {base sz n q : Nat} {e t : TypeId} {v : Value} {xs vs : List Value} (h : w.ownsRow base e sz v n xs) (hb : Blk w q vs t) (ht : t ≠ e) : some q ≠ v.ownBlock := fun e' => by
  obtain ⟨h1, h2⟩ := h
  rcases h2 with ⟨rfl, _⟩ | ⟨g, cap, cur, rfl, h3, h4, h5⟩
  · cases e'
  · simp only [Value.ownBlock, Option.some.injEq] at e'
    subst e'
    have := (show _ = _ from hb).symm.trans h4
    simp only [Option.some.injEq, Obj.cells.injEq] at this
    exact ht this.2.1
set_option maxRecDepth 100000 in
set_option maxHeartbeats 8000000 in
theorem rbegins_any (l : List Sq) (a : Option Addr) (cl : Nat) (w : World) (hl : l.length ≤ 40000) (hlc : l.length ≤ cl) (hc : Cs w a (l.flatMap lsqc)) :
    Calls Tryz.prog 49 #[.slice a l.length cl] w fun e w' => ∃ (v : Value) (z i : Int), e = .returned (.tuple #[v, .int .i64 z, .int .i64 i]) ∧ Below w.heap.size w w' ∧ ((planEnd 0 l = some z ∧ i = -1) ∨ (planEnd 0 l = none ∧ 0 ≤ i)) := by
  have HC := hid hc
  have HL := hid hl
  have hlI : (l.length : Int) ≤ 40000 := by omega
  have hlcI : (l.length : Int) ≤ (cl : Int) := by omega
  clear hc hl
  go_enter Tryz.func49, Tryz.ntmps49
  go_wp2_with fail
  go_loopw [5, 6, 7] (fun v z i wr => ∃ (k P : Nat) (xs : List Int), k ≤ l.length ∧ i = .int .i64 (k : Int) ∧ z = .int .i64 (P : Int) ∧ Hid (planEnd 0 (l.take k) = some (P : Int) ∧ P ≤ 131072) ∧ wr.ownsRow w.heap.size 3 1 v k (xs.map iv) ∧ Below w.heap.size w wr) (fun _ _ i _ => l.length - (intOf i).toNat)
  case atStart => exact ⟨0, 0, [], Nat.zero_le _, rfl, rfl, hid ⟨rfl, Nat.zero_le _⟩, World.ownsRow_nil _ _ _ _, Below.refl _ _⟩
  case round =>
    obtain ⟨k, P, xs, hk, rfl, rfl, HPl, ho, hb⟩ := hrel
    obtain ⟨ao, co, rfl⟩ := own_slice ho
    have HO := hid ho
    have HB := hid hb
    by_cases hlt : k < l.length
    · obtain ⟨s, hsk⟩ : ∃ s, l[k]? = some s := ⟨l[k], by simp [hlt]⟩
      obtain ⟨b, o, rfl, hbl, y0, y1, y2⟩ := seq_cells (HC.out.low hb) hsk
      have HSk := hid hsk
      have hP := HPl.out.2
      have hPI : (P : Int) ≤ 131072 := by omega
      have hltI : (k : Int) < (l.length : Int) := by omega
      have HLt := hid hlt
      have HX := hid (Blk.new wr [.int .i64 s.lit, .int .i64 s.len, .int .i64 s.off] 44)
      have HBn := hid (below_new wr (.cells #[.int .i64 s.lit, .int .i64 s.len, .int .i64 s.off] 44))
      have HB1 := hid (HB.out.trans (HBn.out.mono HB.out.size))
      have HO1 := hid (own_low HO.out HBn.out)
      have x0 := HX.out.cell (k := 0) rfl
      have x1 := HX.out.cell (k := 1) rfl
      have hw1 : IntKind.i64.wrap (131072 - (P : Int)) = 131072 - (P : Int) := by rw [IntKind.wrap_i64]; omega
      cases hs : linB s (P : Int) with
      | true =>
        have hin := linB_in hs
        have hg := planEnd_good HSk.out HPl.out.1 hs
        unfold linB at hs
        simp only [Bool.and_eq_true, decide_eq_true_eq] at hs
        obtain ⟨s1, s2, s3⟩ := s
        dsimp only at *
        obtain ⟨n1, rfl⟩ : ∃ n : Nat, s1 = (n : Int) := ⟨s1.toNat, by omega⟩
        obtain ⟨n2, rfl⟩ : ∃ n : Nat, s2 = (n : Int) := ⟨s2.toNat, by omega⟩
        obtain ⟨⟨⟨g1, g2⟩, g3⟩, g4⟩ := hs
        have HG := hid hg
        have HIn := hid hin
        have hw2 : IntKind.i64.wrap (131072 - (P : Int) - (n1 : Int)) = 131072 - (P : Int) - (n1 : Int) := by rw [IntKind.wrap_i64]; omega
        have q1 : ¬ (n1 : Int) < 0 := by omega
        have q2 : ¬ (n2 : Int) < 3 := by omega
        have q3 : ¬ 131072 - (P : Int) < (n1 : Int) := by omega
        have q4 : ¬ 131072 - (P : Int) - (n1 : Int) < (n2 : Int) := by omega
        clear hg hin hsk hlt hk ho hb hbl g1 g2 g3 g4 hP
        go_upto_region 9 with fail
        clear y0 y1 y2 x0 x1 q1 q2 q3 q4 hw2
        obtain ⟨g, hgd⟩ : ∃ g, g = wr.heap.size := ⟨_, rfl⟩
        rw [← hgd] at HX ⊢
        clear hgd
        generalize wr.alloc (.cells #[.int .i64 (n1 : Int), .int .i64 (n2 : Int), .int .i64 s3] 44) = w1 at *
        go_wp2_with (at_builtin; refine Hid.out ?_)
        refine hid ?_
        refine wpList_append1 rfl _ _ 23 rfl 3 _ 1 8 Tryz.underlying23 Tryz.info_intN rfl (by decide) (by decide) _ w.heap.size _ _ _ [.int .i64 (P : Int)] rfl ?hu rfl rfl (by exact HO1.out) ?hn ?hb ?hk
        case hu => simp [Value.oneCell']
        case hn => have := HLt.out; have := HL.out; omega
        case hb => have := HB1.out.size; omega
        case hk =>
          intro v' w3 hown' hg
          have hbg := below_grown HO1.out hg (by have := HB1.out.size; omega)
          have HX3 := hid (HX.out.grown hg (own_neT HO1.out HX.out (by decide)))
          have HB3 := hid (HB1.out.trans hbg)
          have HO3 := hid hown'
          clear hown' hg hbg
          have x0 := HX3.out.cell (k := 0) rfl
          have x1 := HX3.out.cell (k := 1) rfl
          have hw3 : IntKind.i64.wrap ((P : Int) + (n1 : Int)) = (P : Int) + (n1 : Int) := by have := HIn.out; rw [IntKind.wrap_i64]; omega
          have hw4 : IntKind.i64.wrap ((P : Int) + (n1 : Int) + (n2 : Int)) = (P : Int) + (n1 : Int) + (n2 : Int) := by have := HIn.out; rw [IntKind.wrap_i64]; omega
          go_wp2
          go_roundw
          case rel => exact ⟨k + 1, P + n1 + n2, xs ++ [(P : Int)], HLt.out, by go_num, by rw [Int.natCast_add, Int.natCast_add], hid ⟨by rw [HG.out, Int.natCast_add, Int.natCast_add], by have := HIn.out; omega⟩, by rw [List.map_append]; exact HO3.out, HB3.out⟩
          case measure => have := HLt.out; simp [intOf]; omega
      | false =>
        have HN := hid (planEnd_poor HSk.out HPl.out.1 hs)
        have hbad : s.lit < 0 ∨ (¬ s.lit < 0 ∧ s.len < 3) ∨ (¬ s.lit < 0 ∧ ¬ s.len < 3 ∧ 131072 - (P : Int) < s.lit) ∨ (¬ s.lit < 0 ∧ ¬ s.len < 3 ∧ ¬ 131072 - (P : Int) < s.lit ∧ 131072 - (P : Int) - s.lit < s.len) := by
          unfold linB at hs
          simp only [Bool.and_eq_false_iff, decide_eq_false_iff_not] at hs
          omega
        obtain ⟨s1, s2, s3⟩ := s
        dsimp only at *
        clear hs hsk hlt hk ho hb hbl
        have fin : ∀ wr', Below w.heap.size w wr' → ∃ (v : Value) (z i : Int), Ending.returned (.tuple #[.slice ao k co, .int .i64 (P : Int), .int .i64 (k : Int)]) = Ending.returned (.tuple #[v, .int .i64 z, .int .i64 i]) ∧ Below w.heap.size w wr' ∧ ((planEnd 0 l = some z ∧ i = -1) ∨ (planEnd 0 l = none ∧ 0 ≤ i)) :=
          fun wr' hb => ⟨_, _, _, rfl, hb, Or.inr ⟨HN.out, by omega⟩⟩
        have HFin := hid fin
        clear fin
        rcases hbad with q1 | ⟨q1, q2⟩ | ⟨q1, q2, q3⟩ | ⟨q1, q2, q3, q4⟩
        · go_wp2
          refine bodyPost_ret (v := .tuple #[.slice ao k co, .int .i64 (P : Int), .int .i64 (k : Int)]) (by simp [results, Tryz.results49, go_sem]) rfl ?_
          exact HFin.out _ HB1.out
        · go_wp2
          refine bodyPost_ret (v := .tuple #[.slice ao k co, .int .i64 (P : Int), .int .i64 (k : Int)]) (by simp [results, Tryz.results49, go_sem]) rfl ?_
          exact HFin.out _ HB1.out
        · go_wp2
          refine bodyPost_ret (v := .tuple #[.slice ao k co, .int .i64 (P : Int), .int .i64 (k : Int)]) (by simp [results, Tryz.results49, go_sem]) rfl ?_
          exact HFin.out _ HB1.out
        · have hw2 : IntKind.i64.wrap (131072 - (P : Int) - s1) = 131072 - (P : Int) - s1 := by rw [IntKind.wrap_i64]; omega
          go_wp2
          refine bodyPost_ret (v := .tuple #[.slice ao k co, .int .i64 (P : Int), .int .i64 (k : Int)]) (by simp [results, Tryz.results49, go_sem]) rfl ?_
          exact HFin.out _ HB1.out
    · obtain rfl : k = l.length := by omega
      have hE := HPl.out.1
      rw [List.take_of_length_le (Nat.le_refl _)] at hE
      have HE := hid hE
      clear ho hb hE
      go_wp2
      refine bodyPost_ret (v := .tuple #[.slice ao l.length co, .int .i64 (P : Int), .int .i64 (-1)]) (by simp [results, Tryz.results49, go_sem]) rfl ?_
      exact ⟨_, _, _, rfl, HB.out, Or.inl ⟨HE.out, rfl⟩⟩
set_option maxRecDepth 100000 in
theorem rsize_any (l : List Sq) (a : Option Addr) (cl : Nat) (w : World) (hl : l.length ≤ 40000) (hlc : l.length ≤ cl) (hc : Cs w a (l.flatMap lsqc)) :
    Calls Tryz.prog 74 #[.slice a l.length cl] w (RetV w (match planEnd 0 l with | some n => .tuple #[.int .i64 n, .int .i64 0] | none => .tuple #[.int .i64 0, .int .i64 15])) := by
  have HBg := hid (rbegins_any l a cl w hl hlc hc)
  clear hc
  cases hE : planEnd 0 l with
  | some n =>
    rw [hE] at HBg
    dsimp only
    go_enter Tryz.func74, Tryz.ntmps74
    go_wp2_with fail
    refine HBg.out.mono ?_
    rintro e w1 ⟨v, z, i, rfl, hb, ⟨hp, rfl⟩ | ⟨hp, hi⟩⟩
    · have HB := hid hb
      cases hp
      clear hb HBg
      go_wp2
      refine bodyPost_ret (v := .tuple #[.int .i64 n, .int .i64 0]) (by simp [results, Tryz.results74, go_sem]) rfl ?_
      exact ⟨rfl, HB.out⟩
    · cases hp
  | none =>
    rw [hE] at HBg
    dsimp only
    go_enter Tryz.func74, Tryz.ntmps74
    go_wp2_with fail
    refine HBg.out.mono ?_
    rintro e w1 ⟨v, z, i, rfl, hb, ⟨hp, rfl⟩ | ⟨hp, hi⟩⟩
    · cases hp
    · have HB := hid hb
      clear hb hp HBg
      go_wp2
      refine bodyPost_ret (v := .tuple #[.int .i64 0, .int .i64 15]) (by simp [results, Tryz.results74, go_sem]) rfl ?_
      exact ⟨rfl, HB.out⟩
set_option maxRecDepth 100000 in
theorem rlits22_bad (l : List Sq) (a : Option Addr) (cl : Nat) (ad : Option Addr) (c : Nat) (bs : List UInt8) (w : World) (h : PdAt w a cl l ad c bs) (hp : plitsO bs l = false) :
    Calls Tryz.prog 39 #[.slice a l.length cl, .slice ad bs.length c] w (RetV w (.tuple #[.slice none 0 0, .int .i64 15])) := by
  have HS := hid (rsize_any l a cl w h.hl h.hlc h.cells)
  unfold plitsO at hp
  cases hE : planEnd 0 l with
  | some n =>
    rw [hE] at HS hp
    have hn : (bs.length : Int) < n := by simpa using hp
    clear h hp
    dsimp only at HS
    go_enter Tryz.func39, Tryz.ntmps39
    go_wp2_with fail
    refine HS.out.mono ?_
    rintro e w1 ⟨rfl, hb⟩
    have HB := hid hb
    clear hb HS
    go_wp2
    refine bodyPost_ret (v := .tuple #[.slice none 0 0, .int .i64 15]) (by simp [results, Tryz.results39, go_sem]) rfl ?_
    exact ⟨rfl, HB.out⟩
  | none =>
    rw [hE] at HS
    clear h hp
    dsimp only at HS
    go_enter Tryz.func39, Tryz.ntmps39
    go_wp2_with fail
    refine HS.out.mono ?_
    rintro e w1 ⟨rfl, hb⟩
    have HB := hid hb
    clear hb HS
    go_wp2
    refine bodyPost_ret (v := .tuple #[.slice none 0 0, .int .i64 15]) (by simp [results, Tryz.results39, go_sem]) rfl ?_
    exact ⟨rfl, HB.out⟩
set_option maxRecDepth 100000 in
set_option maxHeartbeats 8000000 in
theorem rlits22_ok (l : List Sq) (a : Option Addr) (cl : Nat) (ad : Option Addr) (c : Nat) (bs : List UInt8) (w : World) (h : PdAt w a cl l ad c bs) (n : Int) (hp : planEnd 0 l = some n) (hn : n ≤ bs.length) :
    Calls Tryz.prog 39 #[.slice a l.length cl, .slice ad bs.length c] w fun e w' => ∃ v, e = .returned (.tuple #[v, .int .i64 0]) ∧ w'.ownsRow w.heap.size 5 1 v (litsS bs l).length ((litsS bs l).map bv) ∧ Below w.heap.size w w' := by
  have hS := rsize_any l a cl w h.hl h.hlc h.cells
  rw [hp] at hS
  have HS := hid hS
  clear hS
  dsimp only at HS
  have HH := hid h
  have hle := planEnd_some l 0 n hp
  obtain ⟨N, rfl⟩ : ∃ N : Nat, n = (N : Int) := ⟨n.toNat, by omega⟩
  have hE : litsS bs l = litsGo bs 0 l ++ bs.drop N := by unfold litsS; rw [← hle.1, Int.toNat_natCast]
  have HLm := hid (litsS_len hp hn)
  have HE := hid hE
  have HP := hid (And.intro hp (And.intro hn hle.1))
  have hNI : (N : Int) ≤ (bs.length : Int) := hn
  have hNn : N ≤ bs.length := by omega
  have hLc := h.hLc
  have hcm := h.hcm
  have hsm := h.small
  have hcI : (c : Int) ≤ 9223372036854775807 := by omega
  have hLcI : (bs.length : Int) ≤ (c : Int) := by omega
  have hlI : (l.length : Int) ≤ 40000 := by have := h.hl; omega
  have hlcI : (l.length : Int) ≤ (cl : Int) := by have := h.hlc; omega
  have t2 : decide ((bs.length : Int) < (N : Int)) = false := by simp; omega
  have t3 : decide (bs.length < N) = false := by simp; omega
  have HAd := hid h.had
  have HN := hid (And.intro hNn (And.intro hLc hcm))
  clear hp hle hE hn hNn h hLc hcm hsm
  go_enter Tryz.func39, Tryz.ntmps39
  go_wp2_with fail
  refine HS.out.mono ?_
  rintro e w1 ⟨rfl, hb⟩
  have HB := hid hb
  clear hb HS
  go_wp2_with fail
  go_loopw [8, 9, 10] (fun v z i wr => ∃ (k P : Nat), k ≤ l.length ∧ i = .int .i64 (k : Int) ∧ z = .int .i64 (P : Int) ∧ Hid (lend 0 (l.take k) = (P : Int)) ∧ wr.ownsRow w.heap.size 5 1 v (litsGo bs 0 (l.take k)).length ((litsGo bs 0 (l.take k)).map bv) ∧ Below w.heap.size w wr) (fun _ _ i _ => l.length - (intOf i).toNat)
  case atStart => exact ⟨0, 0, Nat.zero_le _, rfl, rfl, hid rfl, World.ownsRow_nil _ _ _ _, HB.out⟩
  case round =>
    obtain ⟨k, P, hk, rfl, rfl, HLe, ho, hb⟩ := hrel
    obtain ⟨ao, co, rfl⟩ := own_slice ho
    have HO := hid ho
    have HBr := hid hb
    by_cases hlt : k < l.length
    · obtain ⟨s, hsk⟩ : ∃ s, l[k]? = some s := ⟨l[k], by simp [hlt]⟩
      obtain ⟨b, o, rfl, hbl, y0, y1, y2⟩ := seq_cells (HH.out.cells.low hb) hsk
      obtain ⟨P', T, hP, hT, hPT⟩ := plan_at HP.out.1 HP.out.2.1 hsk
      have hPP : P' = P := by have := HLe.out; omega
      subst hPP
      have hsn : litsGo bs 0 (l.take (k + 1)) = litsGo bs 0 (l.take k) ++ (bs.drop P').take T := by
        obtain ⟨_, e⟩ := List.getElem?_eq_some_iff.1 hsk
        rw [List.take_succ_eq_append_getElem hlt, litsGo_snoc, e, hP, hT]
        simp
      have hln1 : lend 0 (l.take (k + 1)) = lend 0 (l.take k) + s.lit + s.len := by
        obtain ⟨_, e⟩ := List.getElem?_eq_some_iff.1 hsk
        rw [List.take_succ_eq_append_getElem hlt, lend_snoc, e]
      have hlin : linB s (P' : Int) = true := by
        cases hx : linB s (P' : Int) with
        | true => rfl
        | false =>
          have hq := planEnd_poor hsk (by rw [← hP]; exact planEnd_pre (l.take k) (l.drop k) 0 N (by rw [List.take_append_drop]; exact HP.out.1)) hx
          rw [HP.out.1] at hq
          cases hq
      have hin := linB_in hlin
      have hnext : planEnd 0 (l.take (k + 1)) = some (lend 0 (l.take (k + 1))) := planEnd_pre (l.take (k + 1)) (l.drop (k + 1)) 0 N (by rw [List.take_append_drop]; exact HP.out.1)
      have hlen := litsGo_len bs (l.take (k + 1)) 0 _ hnext
      have hleN : lend 0 (l.take (k + 1)) ≤ (N : Int) := by
        have h8 := planEnd_app (l.take (k + 1)) (l.drop (k + 1)) 0 _ hnext
        rw [List.take_append_drop, HP.out.1] at h8
        exact (planEnd_some _ _ _ h8.symm).2.1
      have hN1 := HN.out
      obtain ⟨s1, s2, s3⟩ := s
      dsimp only at *
      subst hT
      obtain ⟨X, rfl⟩ : ∃ X : Nat, s2 = (X : Int) := ⟨s2.toNat, by omega⟩
      rw [hln1, hP] at hleN hlen
      have hpc : P' + T < bs.length := by omega
      have hsome : ∃ b o, ad = some ⟨b, o, none⟩ := by
        cases bs with
        | nil => exact absurd hpc (by simp)
        | cons x r =>
          obtain ⟨b, o, e, _⟩ := HH.out.data 0 (bv x) rfl
          exact ⟨b, o, e⟩
      obtain ⟨bd, od, rfl⟩ := hsome
      have hcs2 := (HH.out.data.low hb).part P' T
      have HCd := hid hcs2
      have HCl := hid (HH.out.cells.low hb)
      have HSn := hid hsn
      have HSk := hid hsk
      have HLt := hid hlt
      have HLx := hid (And.intro hleN (And.intro hlen (And.intro hln1 hP)))
      have hltI : (k : Int) < (l.length : Int) := by omega
      have hn1 : ¬ c = P' := by omega
      have hn2 : ¬ c - P' = 0 := by omega
      have hPTI : (P' : Int) + (T : Int) ≤ (bs.length : Int) := by omega
      have hPTc : (P' : Int) + (T : Int) ≤ (c : Int) := by omega
      have hPcI : (P' : Int) ≤ (c : Int) := by omega
      have hPPT : (P' : Int) ≤ (P' : Int) + (T : Int) := by omega
      have hw1 : IntKind.i64.wrap ((P' : Int) + (T : Int)) = (P' : Int) + (T : Int) := by rw [IntKind.wrap_i64]; omega
      have hPTI2 : ((P' + T : Nat) : Int) ≤ (c : Int) := by omega
      have hPPT2 : (P' : Int) ≤ ((P' + T : Nat) : Int) := by omega
      have hsub : P' + T - P' = T := by omega
      clear hcs2 hsn hln1 hlin hin hnext hlen hleN hN1 hP hPT hsk hk ho hb hbl hlt hpc
      go_wp2_with (at_builtin; refine Hid.out ?_)
      clear y0 y1 y2 hn1 hn2 hPTI hPTc hPcI hPPT hPTI2 hPPT2
      refine hid ?_
      refine wpList_appendsK rfl _ _ 22 rfl 5 _ 1 1 Tryz.underlying22 Tryz.info_u8 rfl (by decide) (by decide) _ w.heap.size _ (litsGo bs 0 (l.take k)).length (P' + T - P') (c - P') (some ⟨bd, od + P', none⟩) ((litsGo bs 0 (l.take k)).map bv) (((bs.drop P').take T).map bv) ?hlt ?hu rfl rfl ?hcc (fun h => by cases h) (by exact HCd.out) (by exact HO.out) ?hn ?hb ?hk
      case hlt => have := HLx.out; have := HN.out; rw [List.length_map, List.length_take, List.length_drop]; omega
      case hu =>
        intro u hu
        obtain ⟨x, _, rfl⟩ := List.mem_map.1 hu
        rfl
      case hcc => have := HLx.out; have := HN.out; omega
      case hn => have h1 := HLx.out.2.1; rw [HSn.out, List.length_append] at h1; have := HLx.out.1; have := HN.out; omega
      case hb => exact HBr.out.size
      case hk =>
        intro v' w3 hown' hg
        have hbg := below_grown HO.out hg HBr.out.size
        have hTl : ((bs.drop P').take T).length = T := by have := HLx.out; have := HN.out; rw [List.length_take, List.length_drop]; omega
        rw [← List.map_append, ← HSn.out, hsub] at hown'
        have hl3 : (litsGo bs 0 (l.take k)).length + T = (litsGo bs 0 (l.take (k + 1))).length := by rw [HSn.out, List.length_append, hTl]
        rw [hl3] at hown'
        have HO3 := hid hown'
        have HB3 := hid (HBr.out.trans hbg)
        obtain ⟨b', o', e', _, y0, y1, y2⟩ := seq_cells (HH.out.cells.low HB3.out) HSk.out
        cases e'
        have hw2 : IntKind.i64.wrap ((P' : Int) + (T : Int) + (X : Int)) = ((P' + T + X : Nat) : Int) := by have := HLx.out; have := HN.out; rw [IntKind.wrap_i64]; omega
        clear hown' hg hbg hl3 hTl y2 hsub
        obtain ⟨a8, c8, rfl⟩ := own_slice HO3.out
        dsimp only at y0 y1
        go_wp2_with fail
        go_quiet (fail)
        clear y0 y1 hw1 hw2
        have HB4 := hid (below_drewN HB3.out nq)
        have HO4 := hid (show (w3.drewN nq).ownsRow w.heap.size 5 1 (.slice a8 (litsGo bs 0 (l.take (k + 1))).length c8) (litsGo bs 0 (l.take (k + 1))).length ((litsGo bs 0 (l.take (k + 1))).map bv) from HO3.out)
        generalize w3.drewN nq = w4 at *
        clear HO3
        go_wp2
        go_roundw
        case rel => exact ⟨k + 1, P' + T + X, HLt.out, by go_num, rfl, hid (by have := HLx.out; omega), HO4.out, HB4.out⟩
        case measure => have := HLt.out; simp [intOf]; omega
    · obtain rfl : k = l.length := by omega
      have hPN : P = N := by have h1 := HLe.out; have h2 := HP.out.2.2; rw [List.take_of_length_le (Nat.le_refl _)] at h1; omega
      subst hPN
      rw [List.take_of_length_le (Nat.le_refl _)] at HO
      rw [List.take_of_length_le (Nat.le_refl _)]
      clear ho hb hk HLe t2 t3
      have HC3 := hid (HH.out.data.low HBr.out)
      by_cases hlt2 : P < c
      · have hsome : (∃ b o, ad = some ⟨b, o, none⟩) ∨ bs = [] := by
          cases bs with
          | nil => exact .inr rfl
          | cons x r =>
            obtain ⟨b, o, e, _⟩ := HH.out.data 0 (bv x) rfl
            exact .inl ⟨b, o, e⟩
        have hadn : ad ≠ none := fun e => by have := HAd.out e; omega
        obtain ⟨adv, rfl⟩ : ∃ x, ad = some x := by
          cases ad with
          | none => exact absurd rfl hadn
          | some x => exact ⟨x, rfl⟩
        obtain ⟨b9, o9, sp9⟩ := adv
        have hn1 : ¬ c = P := by omega
        have hn2 : ¬ c - P = 0 := by omega
        rcases hsome with ⟨b, o, e⟩ | e
        · cases e
          have hcs : Cs wr (some ⟨b9, o9 + P, none⟩) ((bs.drop P).map bv) := by
            have := HC3.out.part P (bs.length - P)
            rw [List.take_of_length_le (by simp)] at this
            exact this
          have HCs := hid hcs
          clear hcs hadn
          go_wp2_with (at_builtin; refine Hid.out ?_)
          refine hid ?_
          refine wpList_appendsK rfl _ _ 22 rfl 5 _ 1 1 Tryz.underlying22 Tryz.info_u8 rfl (by decide) (by decide) _ w.heap.size _ (litsGo bs 0 l).length (bs.length - P) (c - P) (some ⟨b9, o9 + P, none⟩) ((litsGo bs 0 l).map bv) ((bs.drop P).map bv) ?hl ?hu rfl rfl (by have := HN.out; omega) (fun h => by cases h) (by exact HCs.out) (by exact HO.out) ?hn ?hb ?hk
          case hu =>
            intro u hu
            first
              | (obtain ⟨x, _, rfl⟩ := List.mem_map.1 hu; rfl)
              | (simp at hu)
          case hl => simp
          case hn => have h1 := HLm.out; have h2 := HN.out; rw [HE.out] at h1; (try simp only [List.length_append, List.length_drop] at h1); omega
          case hb => exact HBr.out.size
          case hk =>
            intro v' w4 hown' hg
            have hbg := below_grown HO.out hg HBr.out.size
            have HFO := hid (show w4.ownsRow w.heap.size 5 1 v' (litsS bs l).length ((litsS bs l).map bv) from by
              rw [HE.out]
              first
                | (rw [List.map_append, List.length_append, List.length_drop]; exact hown')
                | (simp only [List.append_nil, Nat.add_zero] at hown'; exact hown')
                | (simp only [List.append_nil, Nat.add_zero, List.drop_nil] at hown' ⊢; exact hown'))
            have HFB := hid (HBr.out.trans hbg)
            clear hown' hg hbg
            obtain ⟨a8, c8, rfl⟩ := own_slice HFO.out
            go_wp2
            go_ret2
            exact ⟨_, rfl, HFO.out, HFB.out⟩
        · subst e
          have hN0 : P = 0 := by have := HN.out.1; simpa using this
          subst hN0
          go_wp2_with (at_builtin; refine Hid.out ?_)
          refine hid ?_
          refine wpList_appendsK rfl _ _ 22 rfl 5 _ 1 1 Tryz.underlying22 Tryz.info_u8 rfl (by decide) (by decide) _ w.heap.size _ (litsGo [] 0 l).length 0 c (some ⟨b9, o9, sp9⟩) ((litsGo [] 0 l).map bv) [] ?hl ?hu rfl rfl (Nat.zero_le _) (fun h => by cases h) (fun j u hu => by simp at hu) (by exact HO.out) ?hn ?hb ?hk
          case hu =>
            intro u hu
            first
              | (obtain ⟨x, _, rfl⟩ := List.mem_map.1 hu; rfl)
              | (simp at hu)
          case hl => simp
          case hn => have h1 := HLm.out; have h2 := HN.out; rw [HE.out] at h1; (try simp only [List.length_append, List.length_drop] at h1); omega
          case hb => exact HBr.out.size
          case hk =>
            intro v' w4 hown' hg
            have hbg := below_grown HO.out hg HBr.out.size
            have HFO := hid (show w4.ownsRow w.heap.size 5 1 v' (litsS [] l).length ((litsS [] l).map bv) from by
              rw [HE.out]
              first
                | (rw [List.map_append, List.length_append, List.length_drop]; exact hown')
                | (simp only [List.append_nil, Nat.add_zero] at hown'; exact hown')
                | (simp only [List.append_nil, Nat.add_zero, List.drop_nil] at hown' ⊢; exact hown'))
            have HFB := hid (HBr.out.trans hbg)
            clear hown' hg hbg
            obtain ⟨a8, c8, rfl⟩ := own_slice HFO.out
            go_wp2
            go_ret2
            exact ⟨_, rfl, HFO.out, HFB.out⟩
      · have hcN : c = P := by have := HN.out; omega
        have hbN : bs.length = P := by have := HN.out; omega
        have hdr : bs.drop P = [] := List.eq_nil_of_length_eq_zero (by simp; omega)
        rw [hdr, List.append_nil] at HE
        have HZ := hid (And.intro hcN hbN)
        subst hcN
        go_wp2_with (at_builtin; refine Hid.out ?_)
        refine hid ?_
        refine wpList_appendsK rfl _ _ 22 rfl 5 _ 1 1 Tryz.underlying22 Tryz.info_u8 rfl (by decide) (by decide) _ w.heap.size _ (litsGo bs 0 l).length 0 0 ad ((litsGo bs 0 l).map bv) [] ?hl ?hu rfl rfl (Nat.le_refl _) (fun _ => rfl) (fun j u hu => by simp at hu) (by exact HO.out) ?hn ?hb ?hk
        case hu =>
          intro u hu
          first
            | (obtain ⟨x, _, rfl⟩ := List.mem_map.1 hu; rfl)
            | (simp at hu)
        case hl => simp
        case hn => have h1 := HLm.out; have h2 := HN.out; rw [HE.out] at h1; (try simp only [List.length_append, List.length_drop] at h1); omega
        case hb => exact HBr.out.size
        case hk =>
          intro v' w4 hown' hg
          have hbg := below_grown HO.out hg HBr.out.size
          have HFO := hid (show w4.ownsRow w.heap.size 5 1 v' (litsS bs l).length ((litsS bs l).map bv) from by
            rw [HE.out]
            first
              | (rw [List.map_append, List.length_append, List.length_drop]; exact hown')
              | (simp only [List.append_nil, Nat.add_zero] at hown'; exact hown')
              | (simp only [List.append_nil, Nat.add_zero, List.drop_nil] at hown' ⊢; exact hown'))
          have HFB := hid (HBr.out.trans hbg)
          clear hown' hg hbg
          obtain ⟨a8, c8, rfl⟩ := own_slice HFO.out
          go_wp2
          go_ret2
          exact ⟨_, rfl, HFO.out, HFB.out⟩
end Go.Proofs.YtiagbejfghincaaGreat
