/-
  The walks of layer 33's statements: the reference's Is of layer 22, of a plan of the data.
-/
import Derived.Test.YtiagbejfghincaaGreatX46
import Derived.Test.YtiagbejfghincaaGreatX19
import Derived.Test.YtiagbejfghincaaGreatX29
import Derived.Test.YtiagbejfghincaaGreatX30
import Derived.BigQuiet
import Derived.LoopIn
import Derived.Deep.LoopGhost
import Derived.WalkMore
namespace Go.Port
open Go.RowKit
def begsP : Int → List Sq → List Int
  | _, [] => []
  | p, s :: r => p :: begsP (p + s.lit + s.len) r
theorem begsP_snoc (l : List Sq) (x : Sq) : ∀ p, begsP p (l ++ [x]) = begsP p l ++ [endOf p l] := by
  induction l with
  | nil => intro p; rfl
  | cons s r ih => intro p; simp only [List.cons_append, begsP, endOf, ih]
theorem begsP_get : ∀ (l : List Sq) (p : Int) (k : Nat), k < l.length → (begsP p l)[k]? = some (endOf p (l.take k)) := by
  intro l
  induction l with
  | nil => intro p k h; exact absurd h (Nat.not_lt_zero _)
  | cons s r ih =>
    intro p k h
    cases k with
    | zero => rfl
    | succ k => simp only [begsP, List.getElem?_cons_succ, List.take_succ_cons, endOf]; exact ih _ k (by simpa using h)
theorem endOf_take {l : List Sq} {k : Nat} {s : Sq} (h : l[k]? = some s) (p : Int) : endOf p (l.take (k + 1)) = endOf p (l.take k) + s.lit + s.len := by
  obtain ⟨h1, h2⟩ := List.getElem?_eq_some_iff.1 h
  rw [List.take_succ_eq_append_getElem h1, h2, endOf_snoc]
theorem VerOk.end_le {bs : List UInt8} {A : Nat} {W : Int} : ∀ (l : List Sq) (p : Int), 0 ≤ p → p ≤ (bs.length : Int) - A → VerOk bs A W p l → ∀ k, p ≤ endOf p (l.take k) ∧ endOf p (l.take k) ≤ (bs.length : Int) - A := by
  intro l
  induction l with
  | nil => intro p h0 h1 _ k; simp only [List.take_nil, endOf]; exact ⟨Int.le_refl _, h1⟩
  | cons s r ih =>
    intro p h0 h1 h k
    cases k with
    | zero => exact ⟨Int.le_refl _, h1⟩
    | succ k =>
      have h2 := h.1
      have a1 := h2.lit
      have a2 := h2.len
      have := ih _ (by omega) h2.fin h.2 k
      simp only [List.take_succ_cons, endOf]
      omega
end Go.Port
namespace Go.Proofs.YtiagbejfghincaaGreat
open Go.RowKit Go.Port
attribute [local go_sem] Oper.semAt_some
set_option maxRecDepth 1000000 in
set_option maxHeartbeats 8000000 in
theorem rwhere_ok (bs : List UInt8) (A n : Nat) (Wd : Int) (l : List Sq) (al : Option Addr) (cl : Nat) (w : World) (hl : l.length ≤ 40000) (hc : CellsAt w al (l.flatMap sqc)) (hA : A ≤ 1000000) (hn : n ≤ 131072) (hAn : bs.length = A + n) (hW : 1 ≤ Wd ∧ Wd ≤ 134217728) (hv : VerOk bs A Wd 0 l) :
    Calls Tryz.prog 48 #[.slice al l.length cl, .int .i64 (n : Int), .int .i64 (A : Int), .int .i64 Wd] w (RetV w (.tuple #[.int .i64 0, .int .i64 0])) := by
  have HC := hid hc
  have HV := hid (And.intro hv (VerOk.end_le l 0 (Int.le_refl _) (by omega) hv))
  obtain ⟨m, hm⟩ : ∃ m, l.length = m := ⟨_, rfl⟩
  have HM := hid hm
  rw [hm] at hl ⊢
  have HAn := hid hAn
  have w1 : ¬ (n : Int) < 0 := by omega
  have w2 : ¬ (A : Int) < 0 := by omega
  have w3 : ¬ 131072 < (n : Int) := by omega
  have w4 : ¬ Wd < 1 := by omega
  have w5 : ¬ 134217728 < Wd := by omega
  clear hc hv hm hAn
  go_enter Tryz.func48, Tryz.ntmps48
  go_wp2
  go_loopg [10, 11] m (fun gk z i wr => ∃ (k P : Nat), gk = m - k ∧ k ≤ m ∧ i = .int .i64 (k : Int) ∧ z = .int .i64 (P : Int) ∧ Hid (endOf 0 (l.take k) = (P : Int)) ∧ Hid (Below w.heap.size w wr))
  case atStart => exact ⟨0, 0, rfl, Nat.zero_le _, rfl, rfl, hid rfl, hid (Below.refl _ _)⟩
  case round =>
    obtain ⟨k, P, hgk, hk, rfl, rfl, HP, HB⟩ := hrel
    have HG := hid hgk
    clear hgk
    by_cases hkm : k < m
    · obtain ⟨⟨s1, s2, s3⟩, hs⟩ : ∃ s, l[k]? = some s := ⟨l[k]'(by rw [HM.out]; exact hkm), by simp⟩
      have hok := HV.out.1.drop l 0 k _ hs
      rw [HP.out] at hok
      have h1 := hok.lit
      have h2 := hok.len
      have h3 := hok.fin
      have h4 := hok.off
      have h5 := hok.win
      have h6 := hok.far
      have hnx := endOf_take hs 0
      rw [HP.out] at hnx
      dsimp only at h1 h2 h3 h4 h5 h6 hnx
      obtain ⟨n1, rfl⟩ : ∃ n : Nat, s1 = (n : Int) := ⟨s1.toNat, by omega⟩
      obtain ⟨n2, rfl⟩ : ∃ n : Nat, s2 = (n : Int) := ⟨s2.toNat, by omega⟩
      have hfin : P + n1 + n2 ≤ n := by have := HAn.out; omega
      obtain ⟨b, o, rfl, hbl, y0, y1, y2⟩ := seq_cells (HC.out.low HB.out) hs
      dsimp only at y0 y1 y2
      have HX := hid (Blk.new wr [.int .i64 (n1 : Int), .int .i64 (n2 : Int), .int .i64 s3] 44)
      have HBn := hid (HB.out.trans ((below_new wr (.cells #[.int .i64 (n1 : Int), .int .i64 (n2 : Int), .int .i64 s3] 44)).mono HB.out.size))
      have x0 := HX.out.cell (k := 0) rfl
      have x1 := HX.out.cell (k := 1) rfl
      have x2 := HX.out.cell (k := 2) rfl
      have q1 : ¬ (n1 : Int) < 0 := by omega
      have q2 : ¬ (n2 : Int) < 3 := by omega
      have q3 : ¬ (n : Int) - (P : Int) < (n1 : Int) := by omega
      have q4 : ¬ (n : Int) - (P : Int) - (n1 : Int) < (n2 : Int) := by omega
      have q5 : ¬ s3 < 1 := by omega
      have q6 : ¬ Wd < s3 := by omega
      have q7 : ¬ (A : Int) < s3 - (P : Int) - (n1 : Int) := by omega
      have e1 : IntKind.i64.wrap ((n : Int) - (P : Int)) = (n : Int) - (P : Int) := by rw [IntKind.wrap_i64]; omega
      have e2 : IntKind.i64.wrap ((n : Int) - (P : Int) - (n1 : Int)) = (n : Int) - (P : Int) - (n1 : Int) := by rw [IntKind.wrap_i64]; omega
      have e3 : IntKind.i64.wrap (s3 - (P : Int)) = s3 - (P : Int) := by rw [IntKind.wrap_i64]; omega
      have e4 : IntKind.i64.wrap (s3 - (P : Int) - (n1 : Int)) = s3 - (P : Int) - (n1 : Int) := by rw [IntKind.wrap_i64]; omega
      have e5 : IntKind.i64.wrap ((P : Int) + (n1 : Int)) = (P : Int) + (n1 : Int) := by rw [IntKind.wrap_i64]; omega
      have e6 : IntKind.i64.wrap ((P : Int) + (n1 : Int) + (n2 : Int)) = (P : Int) + (n1 : Int) + (n2 : Int) := by rw [IntKind.wrap_i64]; omega
      have e7 : IntKind.i64.wrap ((k : Int) + 1) = (k : Int) + 1 := by rw [IntKind.wrap_i64]; omega
      have hkI : (k : Int) < (m : Int) := by omega
      have HNx := hid hnx
      clear hok h1 h2 h3 h4 h5 h6 hnx hs
      go_wp2
      go_roundg (m - (k + 1))
      case rel => exact ⟨k + 1, P + n1 + n2, rfl, hkm, by go_num, by rw [Int.natCast_add, Int.natCast_add], hid (by rw [HNx.out, Int.natCast_add, Int.natCast_add]), hid HBn.out⟩
      case measure => have := HG.out; omega
    · obtain rfl : k = m := by omega
      go_wp2
      refine bodyPost_ret (v := .tuple #[.int .i64 0, .int .i64 0]) (by simp [results, Tryz.results48, go_sem]) rfl ?_
      exact ⟨rfl, HB.out⟩
set_option maxRecDepth 1000000 in
set_option maxHeartbeats 8000000 in
theorem rbegs_ok (bs : List UInt8) (A n : Nat) (Wd : Int) (l : List Sq) (al : Option Addr) (cl : Nat) (w : World) (hl : l.length ≤ 40000) (hc : CellsAt w al (l.flatMap sqc)) (hn : n ≤ 131072) (hAn : bs.length = A + n) (hv : VerOk bs A Wd 0 l) :
    Calls Tryz.prog 49 #[.slice al l.length cl] w fun e w' => ∃ (v : Value) (z i : Int), e = .returned (.tuple #[v, .int .i64 z, .int .i64 i]) ∧ w'.ownsRow w.heap.size 3 1 v l.length ((begsP 0 l).map iv) ∧ Below w.heap.size w w' := by
  have HC := hid hc
  have HV := hid (And.intro hv (VerOk.end_le l 0 (Int.le_refl _) (by omega) hv))
  obtain ⟨m, hm⟩ : ∃ m, l.length = m := ⟨_, rfl⟩
  have HM := hid hm
  rw [hm] at hl ⊢
  have HAn := hid hAn
  clear hc hv hm hAn
  go_enter Tryz.func49, Tryz.ntmps49
  go_wp2
  go_loopg [5, 6, 7] m (fun gk v z i wr => ∃ (k P : Nat), gk = m - k ∧ k ≤ m ∧ i = .int .i64 (k : Int) ∧ z = .int .i64 (P : Int) ∧ Hid (endOf 0 (l.take k) = (P : Int)) ∧ wr.ownsRow w.heap.size 3 1 v k ((begsP 0 (l.take k)).map iv) ∧ Hid (Below w.heap.size w wr))
  case atStart => exact ⟨0, 0, rfl, Nat.zero_le _, rfl, rfl, hid rfl, World.ownsRow_nil _ _ _ _, hid (Below.refl _ _)⟩
  case round =>
    obtain ⟨k, P, hgk, hk, rfl, rfl, HP, ho, HB⟩ := hrel
    have HG := hid hgk
    clear hgk
    obtain ⟨ao, co, rfl⟩ := own_slice ho
    have HO := hid ho
    clear ho
    by_cases hkm : k < m
    · obtain ⟨⟨s1, s2, s3⟩, hs⟩ : ∃ s, l[k]? = some s := ⟨l[k]'(by rw [HM.out]; exact hkm), by simp⟩
      have hok := HV.out.1.drop l 0 k _ hs
      rw [HP.out] at hok
      have h1 := hok.lit
      have h2 := hok.len
      have h3 := hok.fin
      have hnx := endOf_take hs 0
      rw [HP.out] at hnx
      have hbg : begsP 0 (l.take (k + 1)) = begsP 0 (l.take k) ++ [(P : Int)] := by
        obtain ⟨h1, h2⟩ := List.getElem?_eq_some_iff.1 hs
        rw [List.take_succ_eq_append_getElem h1, begsP_snoc, HP.out]
      dsimp only at h1 h2 h3 hnx
      obtain ⟨n1, rfl⟩ : ∃ n : Nat, s1 = (n : Int) := ⟨s1.toNat, by omega⟩
      obtain ⟨n2, rfl⟩ : ∃ n : Nat, s2 = (n : Int) := ⟨s2.toNat, by omega⟩
      have hfin : P + n1 + n2 ≤ n := by have := HAn.out; omega
      obtain ⟨b, o, rfl, hbl, y0, y1, y2⟩ := seq_cells (HC.out.low HB.out) hs
      dsimp only at y0 y1 y2
      have hb1 := below_new wr (.cells #[.int .i64 (n1 : Int), .int .i64 (n2 : Int), .int .i64 s3] 44)
      have HX := hid (Blk.new wr [.int .i64 (n1 : Int), .int .i64 (n2 : Int), .int .i64 s3] 44)
      have HBn := hid (HB.out.trans (hb1.mono HB.out.size))
      have HO1 := hid (own_low HO.out hb1)
      have x0 := HX.out.cell (k := 0) rfl
      have x1 := HX.out.cell (k := 1) rfl
      have q1 : ¬ (n1 : Int) < 0 := by omega
      have q2 : ¬ (n2 : Int) < 3 := by omega
      have q3 : ¬ 131072 - (P : Int) < (n1 : Int) := by omega
      have q4 : ¬ 131072 - (P : Int) - (n1 : Int) < (n2 : Int) := by omega
      have e1 : IntKind.i64.wrap (131072 - (P : Int)) = 131072 - (P : Int) := by rw [IntKind.wrap_i64]; omega
      have e2 : IntKind.i64.wrap (131072 - (P : Int) - (n1 : Int)) = 131072 - (P : Int) - (n1 : Int) := by rw [IntKind.wrap_i64]; omega
      have hkI : (k : Int) < (m : Int) := by omega
      have HNx := hid hnx
      have HBg := hid hbg
      clear hok h1 h2 h3 hnx hs hb1 hbg
      go_upto_region 9 with fail
      clear y0 y1 y2 x0 x1 q1 q2 q3 q4 e1 e2
      obtain ⟨g, hgd⟩ : ∃ g, g = wr.heap.size := ⟨_, rfl⟩
      rw [← hgd] at HX ⊢
      clear hgd
      generalize wr.alloc (.cells #[.int .i64 (n1 : Int), .int .i64 (n2 : Int), .int .i64 s3] 44) = w1 at *
      go_wp2_with (at_builtin; refine Hid.out ?_)
      refine hid ?_
      refine wpList_append1 rfl _ _ 23 rfl 3 _ 1 8 Tryz.underlying23 Tryz.info_intN rfl (by decide) (by decide) _ w.heap.size _ _ _ [.int .i64 (P : Int)] rfl ?hu rfl rfl (by exact HO1.out) ?hn HBn.out.size ?hk
      case hu => simp [Value.oneCell']
      case hn => omega
      case hk =>
        intro v' w3 hown' hg
        have hbg := below_grown HO1.out hg HBn.out.size
        have HX3 := hid (HX.out.grown hg (own_neT HO1.out HX.out (by decide)))
        have HB3 := hid (HBn.out.trans hbg)
        have HO3 := hid hown'
        clear hown' hg hbg
        have x0 := HX3.out.cell (k := 0) rfl
        have x1 := HX3.out.cell (k := 1) rfl
        have e5 : IntKind.i64.wrap ((P : Int) + (n1 : Int)) = (P : Int) + (n1 : Int) := by rw [IntKind.wrap_i64]; omega
        have e6 : IntKind.i64.wrap ((P : Int) + (n1 : Int) + (n2 : Int)) = (P : Int) + (n1 : Int) + (n2 : Int) := by rw [IntKind.wrap_i64]; omega
        have e7 : IntKind.i64.wrap ((k : Int) + 1) = (k : Int) + 1 := by rw [IntKind.wrap_i64]; omega
        go_wp2
        go_roundg (m - (k + 1))
        case rel => exact ⟨k + 1, P + n1 + n2, rfl, hkm, by go_num, by rw [Int.natCast_add, Int.natCast_add], hid (by rw [HNx.out, Int.natCast_add, Int.natCast_add]), by rw [HBg.out, List.map_append]; exact HO3.out, hid HB3.out⟩
        case measure => have := HG.out; omega
    · obtain rfl : k = m := by omega
      have hO := HO.out
      rw [List.take_of_length_le (by rw [HM.out]; exact Nat.le_refl _)] at hO
      have HO9 := hid hO
      clear hO
      go_wp2
      refine bodyPost_ret (v := .tuple #[.slice ao k co, .int .i64 (P : Int), .int .i64 (-1)]) (by simp [results, Tryz.results49, go_sem]) rfl ?_
      exact ⟨_, _, _, rfl, HO9.out, HB.out⟩
set_option maxRecDepth 1000000 in
set_option maxHeartbeats 8000000 in
theorem ris22_ok (H Dt : List UInt8) (Wd : Int) (l : List Sq) (al : Option Addr) (cl : Nat) (a1 a2 : Option Addr) (c1 c2 : Nat) (w : World) (hl : l.length ≤ 40000) (hc : CellsAt w al (l.flatMap sqc)) (hA : H.length ≤ 1000 ∧ Dt.length ≤ 1000) (h1 : H.length ≤ c1) (h2 : Dt.length ≤ c2) (h3 : a1 = none → c1 = 0) (h4 : a2 = none → c2 = 0) (hc1 : CellsAt w a1 (H.map bv)) (hc2 : CellsAt w a2 (Dt.map bv)) (hW : 1 ≤ Wd ∧ Wd ≤ 134217728) (hv : VerOk (H ++ Dt) H.length Wd 0 l) :
    Calls Tryz.prog 24 #[.slice al l.length cl, .slice a1 H.length c1, .slice a2 Dt.length c2, .int .i64 Wd] w (RetV w (.int .i64 0)) := by
  have HWh := hid (rwhere_ok (H ++ Dt) H.length Dt.length Wd l al cl w hl hc (by omega) (by omega) List.length_append hW hv)
  have HBg := hid (fun W (hW : Below w.heap.size w W) => rbegs_ok (H ++ Dt) H.length Dt.length Wd l al cl W hl (hc.low hW) (by omega) List.length_append hv)
  have HV := hid (And.intro hv (VerOk.end_le l 0 (Int.le_refl _) (by rw [List.length_append]; omega) hv))
  have HC := hid (And.intro hc (And.intro hc1 hc2))
  have H34 := hid (And.intro h1 (And.intro h2 (And.intro h3 h4)))
  have HAA := hid hA
  obtain ⟨bs, hbs⟩ : ∃ bs, H ++ Dt = bs := ⟨_, rfl⟩
  have hbl : bs.length = H.length + Dt.length := by rw [← hbs, List.length_append]
  rw [hbs] at HV
  have HBs := hid (show H.map bv ++ Dt.map bv = bs.map bv from by rw [← hbs, List.map_append])
  obtain ⟨m, hm⟩ : ∃ m, l.length = m := ⟨_, rfl⟩
  have HM := hid hm
  have HBl := hid hbl
  rw [hm] at HWh HBg hl ⊢
  obtain ⟨A, hAA⟩ : ∃ A, H.length = A := ⟨_, rfl⟩
  obtain ⟨n, hnn⟩ : ∃ n, Dt.length = n := ⟨_, rfl⟩
  rw [hAA, hnn] at HWh H34 HAA HBl ⊢
  rw [hAA] at HV
  have HLa := hid (And.intro hAA hnn)
  have hA1 := HAA.out
  clear hc hc1 hc2 h1 h2 h3 h4 hA hv hbs hm hbl hAA hnn hW
  go_enter Tryz.func24, Tryz.ntmps24
  go_wp2_with fail
  refine HWh.out.mono ?_
  rintro e w0 ⟨rfl, hb0⟩
  have HB0 := hid hb0
  clear hb0 HWh
  go_wp2_with (at_builtin; refine Hid.out ?_)
  refine hid ?_
  have HE0 := hid (own_emptyK (w := w0) (e := 5) 1 (Nat.le_refl _))
  have HB1 := hid (HB0.out.alloc HB0.out.size (.cells #[] 5))
  have hs0 : w0.heap.size ≤ (w0.alloc (.cells #[] 5)).heap.size := by simp
  generalize w0.alloc (.cells #[] 5) = w1 at *
  refine wpList_appendsK rfl _ _ 22 rfl 5 _ 1 1 Tryz.underlying22 Tryz.info_byte rfl (by decide) (by decide) w1 w0.heap.size _ 0 A c1 a1 [] (H.map bv) (by rw [List.length_map, HLa.out.1]; omega) ?hu rfl rfl H34.out.1 H34.out.2.2.1 (HC.out.2.1.low HB1.out) (by exact HE0.out) ?hn hs0 ?hk
  case hu =>
    intro u hu
    obtain ⟨x, _, rfl⟩ := List.mem_map.1 hu
    rfl
  case hn => omega
  case hk =>
    intro v1 w2 hown1 hg1
    rw [List.nil_append, Nat.zero_add] at hown1
    have hbg1 := below_grown HE0.out hg1 hs0
    have HO1 := hid hown1
    have HB2 := hid (HB1.out.trans (hbg1.mono HB0.out.size))
    have hs2 : w0.heap.size ≤ w2.heap.size := Nat.le_trans hs0 hbg1.size
    clear hown1 hg1 hbg1 HE0 HB1 hs0
    obtain ⟨b1, d1, rfl⟩ := own_slice HO1.out
    go_wp2_with (at_builtin; refine Hid.out ?_)
    refine hid ?_
    refine wpList_appendsK rfl _ _ 22 rfl 5 _ 1 1 Tryz.underlying22 Tryz.info_byte rfl (by decide) (by decide) w2 w0.heap.size _ A n c2 a2 (H.map bv) (Dt.map bv) (by rw [List.length_map, HLa.out.2]; omega) ?hu2 rfl rfl H34.out.2.1 H34.out.2.2.2 (HC.out.2.2.low HB2.out) (by exact HO1.out) ?hn2 hs2 ?hk2
    case hu2 =>
      intro u hu
      obtain ⟨x, _, rfl⟩ := List.mem_map.1 hu
      rfl
    case hn2 => omega
    case hk2 =>
      intro v2 w3 hown2 hg2
      rw [HBs.out] at hown2
      have hbg2 := below_grown HO1.out hg2 hs2
      have HB3 := hid (HB2.out.trans (hbg2.mono HB0.out.size))
      obtain ⟨b2, d2, rfl⟩ := own_slice hown2
      have HAl := hid (show CellsAt w3 b2 (bs.map bv) from (Sl.of_owns hown2).cells' rfl)
      clear hown2 hg2 hbg2 HO1 HB2 hs2
      go_wp2_with fail
      refine (HBg.out w3 HB3.out).mono ?_
      rintro e w4 ⟨v, z, i, rfl, hown, hb4⟩
      obtain ⟨b4, d4, rfl⟩ := own_slice hown
      have HBr := hid (show CellsAt w4 b4 ((begsP 0 l).map iv) from (Sl.of_owns hown).cells' rfl)
      have HAl4 := hid (HAl.out.low hb4)
      have HB4 := hid (HB3.out.trans (hb4.mono HB3.out.size))
      have HC4 := hid (HC.out.1.low HB4.out)
      clear hown hb4 HAl HB3 HC
      go_wp2
      go_loopg [15] m (fun gk i wr => ∃ (k : Nat), gk = m - k ∧ k ≤ m ∧ i = .int .i64 (k : Int) ∧ Hid (Below w4.heap.size w4 wr))
      case atStart => exact ⟨0, rfl, Nat.zero_le _, rfl, hid (Below.refl _ _)⟩
      case round =>
        obtain ⟨k, hgk, hk, rfl, HB⟩ := hrel
        have HG := hid hgk
        clear hgk
        by_cases hkm : k < m
        · obtain ⟨⟨s1, s2, s3⟩, hs⟩ : ∃ s, l[k]? = some s := ⟨l[k]'(by rw [HM.out]; exact hkm), by simp⟩
          have hok := HV.out.1.drop l 0 k _ hs
          have hee := HV.out.2 k
          obtain ⟨P, hP⟩ : ∃ P : Nat, endOf 0 (l.take k) = (P : Int) := ⟨(endOf 0 (l.take k)).toNat, by omega⟩
          rw [hP] at hok
          have h1 := hok.lit
          have h2 := hok.len
          have h3 := hok.fin
          have h4 := hok.off
          have h6 := hok.far
          have h7 := hok.same
          dsimp only at h1 h2 h3 h4 h6 h7
          obtain ⟨n1, rfl⟩ : ∃ n : Nat, s1 = (n : Int) := ⟨s1.toNat, by omega⟩
          obtain ⟨n2, rfl⟩ : ∃ n : Nat, s2 = (n : Int) := ⟨s2.toNat, by omega⟩
          obtain ⟨n3, rfl⟩ : ∃ n : Nat, s3 = (n : Int) := ⟨s3.toNat, by omega⟩
          have hfin : P + n1 + n2 ≤ n := by have := HBl.out; omega
          have hfar : n3 ≤ A + P + n1 := by omega
          have hsm : ∀ j, j < n2 → bs[A + P + n1 + j]? = bs[A + P + n1 + j - n3]? := fun j hj => by
            have h := h7 j (by omega)
            rw [show ((A : Int) + ((P : Int) + (n1 : Int))).toNat + j = A + P + n1 + j from by omega, show ((A : Int) + ((P : Int) + (n1 : Int)) - (n3 : Int)).toNat + j = A + P + n1 + j - n3 from by omega] at h
            exact h
          obtain ⟨b, o, rfl, hbl, y0, y1, y2⟩ := seq_cells (HC4.out.low HB.out) hs
          dsimp only at y0 y1 y2
          obtain ⟨b5, o5, rfl, hb5, y5⟩ := HBr.out.low HB.out k (.int .i64 (P : Int)) (by rw [List.getElem?_map, begsP_get l 0 k (by rw [HM.out]; exact hkm), hP]; rfl)
          have hkI : (k : Int) < (m : Int) := by omega
          have e1 : IntKind.i64.wrap ((A : Int) + (P : Int)) = (A : Int) + (P : Int) := by rw [IntKind.wrap_i64]; omega
          have e2 : IntKind.i64.wrap ((A : Int) + (P : Int) + (n1 : Int)) = ((A + P + n1 : Nat) : Int) := by rw [IntKind.wrap_i64]; omega
          have HSm := hid (And.intro hsm (And.intro hfin (And.intro hfar h4)))
          have HSs := hid hs
          clear hok hee hP h1 h2 h3 h4 h6 h7 hs hsm
          go_wp2_with fail
          go_quiet (fail)
          go_wp2
          obtain ⟨S, hS⟩ : ∃ S, A + P + n1 = S := ⟨_, rfl⟩
          rw [hS] at HSm
          have hS2 : S + n2 ≤ A + n := by omega
          have hSd := hS
          simp only [← Int.natCast_add, hS]
          have HBq := hid (show Below w4.heap.size w4 (wr.drewN nq) from below_drewN HB.out nq)
          clear y0 y1 y2 y5 e1 e2 hS hSd
          generalize wr.drewN nq = wq at *
          go_loopg [17] n2 (fun gm q w9 => ∃ j : Nat, gm = S + n2 - j ∧ S ≤ j ∧ j ≤ S + n2 ∧ q = .int .i64 (j : Int) ∧ Hid (Below w4.heap.size w4 w9))
          case atStart => exact ⟨S, by omega, Nat.le_refl _, Nat.le_add_right _ _, rfl, hid HBq.out⟩
          case round =>
            obtain ⟨q, hgm, hq0, hq1, rfl, HB9⟩ := hrel
            have HGm := hid hgm
            clear hgm
            obtain ⟨b', o', e', hbl', y0, y1, y2⟩ := seq_cells (HC4.out.low HB9.out) HSs.out
            cases e'
            dsimp only at y0 y1 y2
            have e1 : IntKind.i64.wrap ((S : Int) + (n2 : Int)) = (S : Int) + (n2 : Int) := by rw [IntKind.wrap_i64]; omega
            by_cases hqm : q < S + n2
            · have hr3 := HSm.out.2.2.1
              obtain ⟨r, hr⟩ : ∃ r : Nat, q = r + n3 := ⟨q - n3, by omega⟩
              have hsame := HSm.out.1 (q - S) (by omega)
              rw [show S + (q - S) = q from by omega, show q - n3 = r from by omega] at hsame
              obtain ⟨x, hx⟩ : ∃ x, bs[q]? = some x := ⟨bs[q]'(by have := HBl.out; omega), by simp⟩
              obtain ⟨ba, oa, e2, _, z1⟩ := HAl4.out.low HB9.out q (bv x) (by rw [List.getElem?_map, hx]; rfl)
              obtain ⟨_, _, e3, _, z2⟩ := HAl4.out.low HB9.out r (bv x) (by rw [List.getElem?_map, ← hsame, hx]; rfl)
              rw [e2] at e3
              cases e3
              subst e2
              unfold bv at z1 z2
              have hqI : (q : Int) < (S : Int) + (n2 : Int) := by omega
              have q0 : ¬ (q : Int) < 0 := by omega
              have q1 : (q : Int) < (A : Int) + (n : Int) := by omega
              have q2 : q < A + n := by omega
              have r0 : ¬ (r : Int) < 0 := by omega
              have r1 : (r : Int) < (A : Int) + (n : Int) := by omega
              have r2 : r < A + n := by omega
              have e4 : IntKind.i64.wrap ((q : Int) - (n3 : Int)) = (r : Int) := by rw [IntKind.wrap_i64]; omega
              have e5 : IntKind.i64.wrap ((q : Int) + 1) = (q : Int) + 1 := by rw [IntKind.wrap_i64]; omega
              clear hr hsame hx hr3
              go_wp2_with fail
              go_quiet (fail)
              go_wp2
              go_roundg (S + n2 - (q + 1))
              case rel => exact ⟨q + 1, rfl, by omega, hqm, by go_num, hid (below_drewN HB9.out _)⟩
              case measure => have := HGm.out; omega
            · obtain rfl : q = S + n2 := by omega
              have e5 : IntKind.i64.wrap ((k : Int) + 1) = (k : Int) + 1 := by rw [IntKind.wrap_i64]; omega
              go_wp2
              go_roundg (m - (k + 1))
              case rel => exact ⟨k + 1, rfl, hkm, by go_num, hid HB9.out⟩
              case measure => have := HG.out; omega
        · obtain rfl : k = m := by omega
          go_wp2
          go_ret
          exact ⟨rfl, HB4.out.trans (HB.out.mono HB4.out.size)⟩
end Go.Proofs.YtiagbejfghincaaGreat
