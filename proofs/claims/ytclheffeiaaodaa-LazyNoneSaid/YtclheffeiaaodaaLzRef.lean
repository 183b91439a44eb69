/-
  Plain laws of layer 31: a lazy plan is a plan of its data; what it costs; the cheapest of several. No program in sight.
  The walks of the reference of layer 31: longer, the lazy plan.
  The walks of layer 31: the costs with every lookahead, the cheapest plan; the reference's.
-/
import Derived.Test.YtclheffeiaaodaaLz
import Derived.Test.YtclheffeiaaodaaVerPlain
import Derived.Test.YtclheffeiaaodaaMaHI
import Derived.Test.YtclheffeiaaodaaRCh
import Derived.Test.YtclheffeiaaodaaIx
namespace Go.Port
open Go.RowKit
theorem lazy_ver (bs : List UInt8) (A : Nat) (W D : Int) (far : Nat) : VerOk bs A W 0 (seqs (lazyP bs A W D far)) :=
  planS_ver rfl (lazy_ok (B := bs) (A := A) (W := W) (D := D) (far := far)) (fun p s h => (lazyA_takes h).1) ((bs.length : Int) - A).toNat 0 0 (by omega) (Int.le_refl _) (Int.le_refl _)
theorem ver_in {bs : List UInt8} {A : Nat} {W : Int} {l : List Sq} (h : VerOk bs A W 0 l) (hb : bs.length ≤ 1000000) (hW : W ≤ 134217728) : ∀ s ∈ l, InSq s := by
  intro s hs
  obtain ⟨k, hk⟩ := List.mem_iff_getElem?.1 hs
  have h1 := h.drop l 0 k s hk
  have a1 := h1.p0
  have a2 := h1.lit
  have a3 := h1.len
  have a4 := h1.fin
  have a5 := h1.off
  have a6 := h1.win
  unfold InSq InI
  omega
theorem ver_pos {bs : List UInt8} {A : Nat} {W : Int} {l : List Sq} (h : VerOk bs A W 0 l) : ∀ s ∈ l, 0 ≤ s.lit ∧ 0 ≤ s.len := by
  intro s hs
  obtain ⟨k, hk⟩ := List.mem_iff_getElem?.1 hs
  have h1 := h.drop l 0 k s hk
  have := h1.lit
  have := h1.len
  omega
theorem lazyP_in (bs : List UInt8) (A : Nat) (W D : Int) (far : Nat) (hb : bs.length ≤ 1000000) (hW : W ≤ 134217728) : ∀ s ∈ seqs (lazyP bs A W D far), InSq s := ver_in (lazy_ver bs A W D far) hb hW
/-- What a lazy plan costs. -/
def lazyC (bs : List UInt8) (A : Nat) (W D : Int) (far : Nat) : Int := (costM ((bs.length : Int) - A) (seqs (lazyP bs A W D far))).getD 0
theorem lazyC_some {bs : List UInt8} {A : Nat} {W D : Int} {far : Nat} (hA : A ≤ bs.length) (hW : W ≤ 134217728) : costM ((bs.length : Int) - A) (seqs (lazyP bs A W D far)) = some (lazyC bs A W D far) := by
  obtain ⟨r, h1, _⟩ := planS_cost (lazy_ok (B := bs) (A := A) (W := W) (D := D) (far := far)) (lazy_in (B := bs) (A := A) (W := W) (D := D) (far := far)) hW ((bs.length : Int) - A - 0).toNat 0 0 (8 * ((bs.length : Int) - A)) (by omega) (Int.le_refl _) (by omega) lazy_goes
  have h2 : costM ((bs.length : Int) - A) (seqs (lazyP bs A W D far)) = some r := by
    unfold costM
    rw [if_neg (by omega)]
    rw [Int.sub_zero] at h1
    exact h1
  unfold lazyC
  rw [h2]
  rfl
/-- The costs with every lookahead up to one. -/
def lazyCs (bs : List UInt8) (A : Nat) (W D : Int) (n : Nat) : List Int := (List.range n).map (lazyC bs A W D)
theorem lazyCs_length (bs : List UInt8) (A : Nat) (W D : Int) (n : Nat) : (lazyCs bs A W D n).length = n := by simp [lazyCs]
theorem lazyCs_succ (bs : List UInt8) (A : Nat) (W D : Int) (n : Nat) : lazyCs bs A W D (n + 1) = lazyCs bs A W D n ++ [lazyC bs A W D n] := by
  unfold lazyCs
  rw [List.range_succ, List.map_append]
  rfl
theorem lazyCs_get {bs : List UInt8} {A : Nat} {W D : Int} {n k : Nat} (h : k < n) : (lazyCs bs A W D n)[k]? = some (lazyC bs A W D k) := by
  unfold lazyCs
  rw [List.getElem?_map, List.getElem?_range h]
  rfl
/-- The first of the first k that none of them is less than. -/
def leastGo (f : Nat → Int) : Nat → Nat
  | 0 => 0
  | k + 1 => if f k < f (leastGo f k) then k else leastGo f k
theorem leastGo_lt (f : Nat → Int) (k : Nat) : leastGo f (k + 1) < k + 1 := by
  induction k with
  | zero => unfold leastGo; split <;> simp [leastGo]
  | succ k ih =>
    unfold leastGo
    split
    · omega
    · omega
theorem leastGo_le (f : Nat → Int) (k : Nat) : ∀ j, j < k → f (leastGo f k) ≤ f j := by
  induction k with
  | zero => intro j h; omega
  | succ k ih =>
    intro j hj
    unfold leastGo
    split
    · rename_i h
      by_cases e : j = k
      · subst e; exact Int.le_refl _
      · have := ih j (by omega)
        omega
    · rename_i h
      by_cases e : j = k
      · subst e; omega
      · exact ih j (by omega)
theorem leastGo_one (f : Nat → Int) : leastGo f 1 = 0 := by
  unfold leastGo
  split
  · rfl
  · rfl
/-- The lookahead whose plan is cheapest. -/
def lazyB (bs : List UInt8) (A : Nat) (W D : Int) (far : Nat) : Nat := leastGo (lazyC bs A W D) (far + 1)
end Go.Port
namespace Go.Proofs.Ytclheffeiaaodaa
open Go.RowKit Go.Port

set_option maxRecDepth 100000 in
set_option maxHeartbeats 4000000 in
theorem rlonger_any (bs : List UInt8) (a : Option Addr) (c A : Nat) (W D p n : Int) (far : Nat) (w : World) (hb : bs.length ≤ 1000000) (hbc : bs.length ≤ c) (hA : A ≤ bs.length) (hW : 1 ≤ W ∧ W ≤ 134217728) (hD : 1 ≤ D ∧ D ≤ 4096)
    (hp : 0 ≤ p) (hp2 : p ≤ 900000) (hfar : far ≤ 8) (hc : CellsAt w a (bs.map bv)) :
    Calls Try.prog 33 #[fdv a bs.length c A W D, .int .i64 p, .int .i64 (far : Int), .int .i64 n] w (RetV w (.int .i64 ((longerS (findS bs A W D) p n far).getD (-1)))) := by
  have HX := hid (Blk.new w (fdc a bs.length c A W D) 25)
  have HB := hid (below_new w (.cells (fdc a bs.length c A W D).toArray 25))
  have HFi := hid (fun W' (hW' : Below w.heap.size w W') (q : Int) hq => rfind_any bs a c A W D q W' hb hbc hA hW hD hq (hc.low hW'))
  obtain ⟨R, hR⟩ : ∃ R, longerS (findS bs A W D) p n far = R := ⟨_, rfl⟩
  rw [hR]
  have HR := hid (show longerGo (findS bs A W D) p n far 1 = R from hR)
  unfold fdc at HX HB
  unfold fdv at HFi ⊢
  unfold sqv at HFi
  have hf8 : (far : Int) ≤ 8 := by omega
  clear hb hbc hA hW hD hc hR
  generalize findS bs A W D = find at *
  go_enter Try.func33, Try.ntmps33
  go_wp2
  go_loopg [9] far (fun g t wr => ∃ (f : Nat) (k : Int), f = g ∧ t = .int .i64 k ∧ Hid (k + (f : Int) = (far : Int) + 1 ∧ 1 ≤ k ∧ longerGo find p n f k = R) ∧ Blk wr w.heap.size [.slice a bs.length c, .int .i64 (A : Int), .int .i64 W, .int .i64 D] 25 ∧ Below w.heap.size w wr)
  case atStart => exact ⟨far, 1, rfl, rfl, hid ⟨by omega, Int.le_refl _, HR.out⟩, HX.out, HB.out⟩
  case round =>
    obtain ⟨f, k, hfg, rfl, HI, hbx, hb⟩ := hrel
    have HFg := hid hfg
    have hi := HI.out
    have HXr := hid hbx
    have HBr := hid hb
    clear hfg hb
    cases f with
    | zero =>
      have hd : ¬ k ≤ (far : Int) := by omega
      have hRn : R = none := hi.2.2.symm
      subst hRn
      clear hi hbx
      go_wp2
      go_ret
      exact ⟨rfl, HBr.out⟩
    | succ f =>
      have hd : k ≤ (far : Int) := by omega
      have hk1 : 1 ≤ k := hi.2.1
      have hw1 : IntKind.i64.wrap (p + k) = p + k := by rw [IntKind.wrap_i64]; omega
      have HQ := hid (And.intro hk1 hd)
      obtain ⟨o, ho⟩ : ∃ o, find (p + k) = o := ⟨_, rfl⟩
      have HFq := hid (HFi.out wr HBr.out (p + k) (by omega))
      rw [ho] at HFq
      have HO := hid ho
      have b0 := hbx.cell (k := 0) rfl
      have b1 := hbx.cell (k := 1) rfl
      have b2 := hbx.cell (k := 2) rfl
      have b3 := hbx.cell (k := 3) rfl
      clear hi ho hbx
      go_wp2_with fail
      refine HFq.out.mono ?_
      rintro e w2 ⟨rfl, hb2⟩
      dsimp only
      clear b0 b1 b2 b3
      have hbn := hb2.alloc hb2.size (.cells #[.int .i64 (o.getD Sq.zero).lit, .int .i64 (o.getD Sq.zero).len, .int .i64 (o.getD Sq.zero).off] 49)
      have HB3 := hid (HBr.out.trans (hbn.mono HBr.out.size))
      have HX3 := hid (HXr.out.below hbn HXr.out.lt)
      clear hb2 hbn
      cases o with
      | none =>
        have HN := hid (show longerGo find p n f (k + 1) = R from by
          rw [← HI.out.2.2, longerGo_step (fun s hs => by rw [HO.out] at hs; cases hs)])
        dsimp only [Option.isSome, Option.getD, Sq.zero] at HB3 HX3 ⊢
        go_wp2
        go_roundg f
        case measure => have := HFg.out; omega
        case rel => exact ⟨f, k + 1, rfl, rfl, hid ⟨by have := HI.out.1; omega, by have := HI.out.2.1; omega, HN.out⟩, HX3.out, HB3.out⟩
      | some s =>
        obtain ⟨lit, len, off⟩ := s
        dsimp only [Option.isSome, Option.getD] at HB3 HX3 ⊢
        by_cases hl : n < len
        · have hRs : R = some (p + k) := by rw [← HI.out.2.2, longerGo_hit HO.out hl]
          subst hRs
          go_wp2
          go_ret
          exact ⟨rfl, HB3.out⟩
        · have HN := hid (show longerGo find p n f (k + 1) = R from by
            rw [← HI.out.2.2, longerGo_step (fun s hs => by rw [HO.out] at hs; cases hs; exact hl)])
          go_wp2
          go_roundg f
          case measure => have := HFg.out; omega
          case rel => exact ⟨f, k + 1, rfl, rfl, hid ⟨by have := HI.out.1; omega, by have := HI.out.2.1; omega, HN.out⟩, HX3.out, HB3.out⟩

set_option maxRecDepth 100000 in
set_option maxHeartbeats 4000000 in
theorem rlook_any (bs : List UInt8) (a : Option Addr) (c A : Nat) (W D far : Int) (w : World) (hb : bs.length ≤ 900000) (hbc : bs.length ≤ c) (hA : A ≤ bs.length) (hW : 1 ≤ W ∧ W ≤ 134217728) (hD : 1 ≤ D ∧ D ≤ 4096)
    (hc : CellsAt w a (bs.map bv)) :
    Calls Try.prog 14 #[fdv a bs.length c A W D, .int .i64 far] w fun e w' => ∃ v, e = .returned (.tuple #[v, .int .i64 (lazyE far)]) ∧ w'.ownsRow w.heap.size 49 3 v (seqs (lazyL bs A W D far)).length ((seqs (lazyL bs A W D far)).flatMap sqc) ∧ Below w.heap.size w w' := by
  have hX := Blk.new w (fdc a bs.length c A W D) 25
  have hB := below_new w (.cells (fdc a bs.length c A W D).toArray 25)
  have HFi := hid (fun W' (hW' : Below w.heap.size w W') (q : Int) hq => rfind_any bs a c A W D q W' (by omega) hbc hA hW hD hq (hc.low hW'))
  unfold fdc at hX hB
  have c0 := hX.cell (k := 0) rfl
  have c1 := hX.cell (k := 1) rfl
  have HX := hid hX
  have HB := hid hB
  have hw1 : IntKind.i64.wrap ((bs.length : Int) - (A : Int)) = (bs.length : Int) - (A : Int) := by rw [IntKind.wrap_i64]; omega
  by_cases he : lazyE far = 0
  · obtain ⟨kf, rfl, hkf⟩ := lazyE_ok he
    have HLg := hid (fun W' (hW' : Below w.heap.size w W') (q n : Int) h1 h2 => rlonger_any bs a c A W D q n kf W' (by omega) hbc hA hW hD h1 h2 hkf (hc.low hW'))
    rw [he, lazyL_nat hkf]
    unfold fdv at HFi HLg ⊢
    unfold sqv at HFi
    obtain ⟨L, hL⟩ : ∃ L, lazyP bs A W D kf = L := ⟨_, rfl⟩
    rw [hL]
    have HL := hid (hL.symm.trans (show lazyP bs A W D kf = planS (lazyA (findS bs A W D) kf) ((bs.length : Int) - A) 0 0 from rfl))
    have HLn := hid (show L.length ≤ 1000000 by rw [← hL]; exact Nat.le_trans (lazyP_length _ _ _ _ _) (by omega))
    have hszI : (bs.length : Int) - (A : Int) ≤ 900000 := by omega
    have hsz0 : 0 ≤ (bs.length : Int) - (A : Int) := by omega
    have HOk := hid (lazy_ok (B := bs) (A := A) (W := W) (D := D) (far := kf))
    have HGs := hid (lazy_goes (B := bs) (A := A) (W := W) (D := D) (far := kf))
    have HIn := hid (And.intro hsz0 hszI)
    have HFm := hid (fun q s => @findS_form bs A W D q s)
    have hf1 : ¬ (kf : Int) < 0 := by omega
    have hf2 : ¬ 8 < (kf : Int) := by omega
    clear hX hB hb hbc hA hW hD hc hL he
    go_enter Try.func14, Try.ntmps14
    go_wp2
    clear c0 c1 hf1 hf2
    generalize hsize : (bs.length : Int) - (A : Int) = size at HL HIn HFm HGs
    have HW1 := hid (hw1.trans hsize)
    clear hw1 hsize hszI hsz0
    generalize findS bs A W D = find at *
    go_loopw [6, 7, 8] (fun v t f wr => ∃ (q frm : Int) (pre : List (Int × Sq)), Hid (L = pre ++ planS (lazyA find kf) size q frm ∧ 0 ≤ frm ∧ frm ≤ q ∧ q ≤ size) ∧ t = .int .i64 q ∧ f = .int .i64 frm ∧ wr.ownsRow (w.heap.size + 1) 49 3 v pre.length ((seqs pre).flatMap sqc) ∧ Blk wr w.heap.size [.slice a bs.length c, .int .i64 (A : Int), .int .i64 W, .int .i64 D] 25 ∧ Below w.heap.size w wr) (fun _ t _ _ => (size - intOf t).toNat)
    case atStart => exact ⟨0, 0, [], hid ⟨HL.out, Int.le_refl _, Int.le_refl _, by have := HIn.out; omega⟩, rfl, rfl, World.ownsRow_nil _ _ _ _, HX.out, HB.out⟩
    case round =>
      obtain ⟨q, frm, pre, HI, rfl, rfl, hown, hbx, hBr⟩ := hrel
      have HO := hid hown
      have HX := hid hbx
      have HBr := hid hBr
      by_cases hq : q < size
      · have b0 := hbx.cell (k := 0) rfl
        have b1 := hbx.cell (k := 1) rfl
        have b2 := hbx.cell (k := 2) rfl
        have b3 := hbx.cell (k := 3) rfl
        have hi := HI.out
        have hin := HIn.out
        have hw1 := HW1.out
        have HF := hid (HFi.out wr HBr.out q (by omega))
        have hw2 : IntKind.i64.wrap (q + 1) = q + 1 := by rw [IntKind.wrap_i64]; omega
        have hw3 : IntKind.i64.wrap (q - frm) = q - frm := by rw [IntKind.wrap_i64]; omega
        cases hf : find q with
        | none =>
          rw [hf] at HF
          have hgo : lazyA find kf q = .go (q + 1) := lazyA_none hf
          have HN := hid (show L = pre ++ planS (lazyA find kf) size (q + 1) frm ∧ 0 ≤ frm ∧ frm ≤ q + 1 ∧ q + 1 ≤ size from ⟨by rw [hi.1, planS_go HOk.out frm hq hgo], by omega, by omega, by omega⟩)
          have HQ := hid hq
          clear hown hbx hBr hi hin hf hgo
          go_wp2_with fail
          refine HF.out.mono ?_
          rintro e w1 ⟨rfl, hb1⟩
          dsimp only [Option.getD, Option.isSome, Sq.zero]
          have hbn := hb1.alloc hb1.size (.cells #[.int .i64 0, .int .i64 0, .int .i64 0] 49)
          have HO2 := hid (own_low HO.out hbn)
          have HX2 := hid (HX.out.below hbn HX.out.lt)
          have HB2 := hid (HBr.out.trans (hbn.mono HBr.out.size))
          clear hb1 hbn
          go_wp2
          go_roundw
          case rel => exact ⟨q + 1, frm, pre, HN, rfl, rfl, HO2.out, HX2.out, HB2.out⟩
          case measure => have := HQ.out; simp [intOf]; omega
        | some s =>
          rw [hf] at HF
          have hfm := HFm.out q s hf
          obtain ⟨lit, len, off⟩ := s
          dsimp only [Option.getD, Option.isSome] at HF hfm
          obtain ⟨rfl, hm1, hm2, hm3, hm4, hm5, hm6⟩ := hfm
          have hlc := HLg.out
          cases hlo : longerS find q len kf with
          | some r =>
            have hgo : lazyA find kf q = .go r := lazyA_go hf hlo
            have hqr := (HOk.out q).1 r hgo
            have hrs := HGs.out q r hgo hq
            have HN := hid (show L = pre ++ planS (lazyA find kf) size r frm ∧ 0 ≤ frm ∧ frm ≤ r ∧ r ≤ size from ⟨by rw [hi.1, planS_go HOk.out frm hq hgo], by omega, by omega, by omega⟩)
            have HQ := hid (And.intro hq hqr)
            have hrge : 0 ≤ r := by omega
            have HLc := hid (fun W' hW' => HLg.out W' hW' q len (by omega) (by omega))
            rw [hlo] at HLc
            dsimp only [Option.getD] at HLc
            clear hown hbx hBr hi hin hf hgo hm1 hm2 hm3 hm4 hm5 hm6 hlc hlo hqr hrs
            go_wp2_with fail
            refine HF.out.mono ?_
            rintro e w1 ⟨rfl, hb1⟩
            have hbn := hb1.alloc hb1.size (.cells #[.int .i64 0, .int .i64 len, .int .i64 off] 49)
            have HO2 := hid (own_low HO.out hbn)
            have HX2 := hid (HX.out.below hbn HX.out.lt)
            have HB2 := hid (HBr.out.trans (hbn.mono HBr.out.size))
            have HY2 := hid (Blk.new w1 [.int .i64 0, .int .i64 len, .int .i64 off] 49)
            clear hb1 hbn b0 b1 b2 b3
            go_upto_region 9 with fail
            generalize (w1.alloc (.cells #[.int .i64 0, .int .i64 len, .int .i64 off] 49)) = w2 at *
            have b0 := HX2.out.cell (k := 0) rfl
            have b1 := HX2.out.cell (k := 1) rfl
            have b2 := HX2.out.cell (k := 2) rfl
            have b3 := HX2.out.cell (k := 3) rfl
            have y1 := HY2.out.cell (k := 1) rfl
            go_wp2_with fail
            refine (HLc.out _ HB2.out).mono ?_
            rintro e w3 ⟨rfl, hb3⟩
            have HO3 := hid (own_low HO2.out hb3)
            have HX3 := hid (HX2.out.below hb3 HX2.out.lt)
            have HB3 := hid (HB2.out.trans (hb3.mono HB2.out.size))
            clear hb3 b0 b1 b2 b3 y1
            go_wp2
            go_roundw
            case rel => exact ⟨r, frm, pre, HN, rfl, rfl, HO3.out, HX3.out, HB3.out⟩
            case measure => have := HQ.out; simp [intOf]; omega
          | none =>
            have hgo : lazyA find kf q = .take ⟨0, len, off⟩ := lazyA_take hf hlo
            have HLc := hid (fun W' hW' => HLg.out W' hW' q len (by omega) (by omega))
            rw [hlo] at HLc
            dsimp only [Option.getD] at HLc
            have hw4 : IntKind.i64.wrap (q + len) = q + len := by rw [IntKind.wrap_i64]; omega
            have hL2 : L = (pre ++ [(q, ⟨q - frm, len, off⟩)]) ++ planS (lazyA find kf) size (q + len) (q + len) := by rw [hi.1, planS_take HOk.out frm hq hgo, List.append_assoc]; rfl
            have HPl := hid (show pre.length + 1 ≤ 1000000 by
              have h1 := HLn.out
              rw [hL2] at h1
              simp only [List.length_append, List.length_cons, List.length_nil] at h1
              omega)
            have HN := hid (show L = (pre ++ [(q, ⟨q - frm, len, off⟩)]) ++ planS (lazyA find kf) size (q + len) (q + len) ∧ 0 ≤ q + len ∧ q + len ≤ q + len ∧ q + len ≤ size from ⟨hL2, by omega, by omega, by omega⟩)
            have HQ := hid (And.intro hq hm1)
            clear hown hbx hBr hi hin hf hgo hm1 hm2 hm3 hm4 hm5 hm6 hL2 hlc hlo
            go_wp2_with fail
            refine HF.out.mono ?_
            rintro e w1 ⟨rfl, hb1⟩
            have hbn := hb1.alloc hb1.size (.cells #[.int .i64 0, .int .i64 len, .int .i64 off] 49)
            have HO1 := hid (own_low HO.out hbn)
            have HX1 := hid (HX.out.below hbn HX.out.lt)
            have HB1 := hid (HBr.out.trans (hbn.mono HBr.out.size))
            have HY1 := hid (Blk.new w1 [.int .i64 0, .int .i64 len, .int .i64 off] 49)
            have hnx : w1.heap.size ≠ w.heap.size := by have := HX.out.lt; have := hb1.size; omega
            have hge : w.heap.size ≤ w1.heap.size := by have := HBr.out.size; have := hb1.size; omega
            have hneo : ∀ (V : World) (v : Value) (n : Nat) (xs : List Value), wr.ownsRow (w.heap.size + 1) 49 3 v n xs → v.ownBlock ≠ some w1.heap.size := fun _ v n xs h e => by have := (h.lt _ e).2; have := hb1.size; omega
            have hno := hneo w1 _ _ _ HO.out
            clear hb1 hbn b0 b1 b2 b3 hneo
            go_upto_region 9 with fail
            generalize (w1.alloc (.cells #[.int .i64 0, .int .i64 len, .int .i64 off] 49)) = w2 at *
            generalize w1.heap.size = G at *
            have b0 := HX1.out.cell (k := 0) rfl
            have b1 := HX1.out.cell (k := 1) rfl
            have b2 := HX1.out.cell (k := 2) rfl
            have b3 := HX1.out.cell (k := 3) rfl
            have y1 := HY1.out.cell (k := 1) rfl
            go_wp2_with fail
            refine (HLc.out _ HB1.out).mono ?_
            rintro e w4 ⟨rfl, hb3⟩
            have hY4 := HY1.out.below hb3 HY1.out.lt
            have HO4 := hid (own_low HO1.out hb3)
            have HX4 := hid (HX1.out.below hb3 HX1.out.lt)
            have HB4 := hid (HB1.out.trans (hb3.mono HB1.out.size))
            clear hb3 b0 b1 b2 b3 y1
            have y0 := hY4.cell (k := 0) rfl
            have y1 := hY4.cell (k := 1) rfl
            have yz := hY4.frozen 0
            have HY2 := hid (hY4.set 0 (.int .i64 (q - frm)))
            have HX2 := hid (HX4.out.other (a := ⟨G, 0, none⟩) (.int .i64 (q - frm)) hnx)
            have HB2 := hid (HB4.out.setCell (p := ⟨G, 0, none⟩) hge (.int .i64 (q - frm)))
            have HO2 := hid (ownsRow_setCell_other HO4.out (a := ⟨G, 0, none⟩) hno (.int .i64 (q - frm)))
            have hss : w.heap.size + 1 ≤ (w4.setCell ⟨G, 0, none⟩ (.int .i64 (q - frm))).heap.size := by have := HX2.out.lt; omega
            clear hY4
            obtain ⟨av, cv, rfl⟩ := own_slice HO2.out
            go_upto_region 13 with fail
            generalize w4.setCell ⟨G, 0, none⟩ (.int .i64 (q - frm)) = w5 at *
            clear y0 y1 yz
            have y0 := HY2.out.cell (k := 0) rfl
            have y1 := HY2.out.cell (k := 1) rfl
            have y2 := HY2.out.cell (k := 2) rfl
            go_wp2_with (at_builtin; refine Hid.out ?_)
            refine hid ?_
            refine wpList_append1 rfl _ _ 29 rfl 49 _ 3 24 Try.underlying29 Try.info_seq rfl (by decide) (by decide) _ (w.heap.size + 1) _ _ _ [.int .i64 (q - frm), .int .i64 len, .int .i64 off] rfl ?hu rfl rfl (by exact HO2.out) ?hn ?hb ?hk
            case hu => simp [Value.oneCell']
            case hn => have := HPl.out; omega
            case hb => exact hss
            case hk =>
              intro v' w3 hown' hg
              have hbg := below_grown HO2.out hg hss
              have HB3 := hid (HB2.out.trans (hbg.mono (Nat.le_succ _)))
              have HX3 := hid (HX2.out.grown hg (own_neT HO2.out HX2.out (by decide)))
              have HO3 := hid hown'
              clear hown' hg hbg
              go_wp2
              go_roundw
              case rel =>
                refine ⟨q + len, q + len, pre ++ [(q, ⟨q - frm, len, off⟩)], HN, rfl, rfl, ?_, HX3.out, HB3.out⟩
                rw [seqs_append, List.length_append, List.flatMap_append]
                exact HO3.out
              case measure => have := HQ.out; simp [intOf]; omega
      · have hi := HI.out
        have hw1 := HW1.out
        have hE : L = pre := by rw [hi.1, planS_end _ frm (by omega), List.append_nil]
        subst hE
        have HO := hid (own_le HO.out (Nat.le_succ _))
        have b0 := HX.out.cell (k := 0) rfl
        have b1 := HX.out.cell (k := 1) rfl
        have HlenS := hid (show (seqs L).length = L.length from by unfold seqs; rw [List.length_map])
        clear hown hbx hi
        go_wp2
        go_ret2
        rw [HlenS.out]
        exact ⟨_, rfl, HO.out, HBr.out⟩
  · have hl : lazyL bs A W D far = [] := by unfold lazyL; rw [if_neg he]
    have hcs := (lazyE_bad he).2
    rw [hl, (lazyE_bad he).1]
    unfold fdv
    clear hX hB hb hbc hA hW hD hc he hl HFi
    rcases hcs with h1 | ⟨h1, h2⟩
    all_goals
      go_enter Try.func14, Try.ntmps14
      go_wp2
      go_ret2
      exact ⟨_, rfl, World.ownsRow_nil _ _ _ _, HB.out⟩
end Go.Proofs.Ytclheffeiaaodaa
namespace Go.Port
open Go.RowKit
/-- The costs, as they are handed back. -/
def lazyK (bs : List UInt8) (A : Nat) (W D far : Int) : List Int := if lazyE far = 0 then lazyCs bs A W D (far.toNat + 1) else []
theorem lazyK_nat {bs : List UInt8} {A : Nat} {W D : Int} {k : Nat} (h : k ≤ 8) : lazyK bs A W D (k : Int) = lazyCs bs A W D (k + 1) := by
  unfold lazyK
  rw [if_pos (lazyE_nat h), Int.toNat_natCast]
/-- The cheapest lookahead and its cost, as they are handed back. -/
def lazyBo (bs : List UInt8) (A : Nat) (W D far : Int) : Int := if lazyE far = 0 then (lazyB bs A W D far.toNat : Int) else 0
def lazyBp (bs : List UInt8) (A : Nat) (W D far : Int) : Int := if lazyE far = 0 then lazyC bs A W D (lazyB bs A W D far.toNat) else 0
end Go.Port
namespace Go.Proofs.Ytclheffeiaaodaa
open Go.RowKit Go.Port

set_option maxRecDepth 100000 in
set_option maxHeartbeats 4000000 in
theorem rprices_any (bs : List UInt8) (a : Option Addr) (c A : Nat) (W D far : Int) (w : World) (hb : bs.length ≤ 90000) (hbc : bs.length ≤ c) (hA : A ≤ bs.length) (hW : 1 ≤ W ∧ W ≤ 134217728) (hD : 1 ≤ D ∧ D ≤ 4096)
    (hc : CellsAt w a (bs.map bv)) :
    Calls Try.prog 18 #[fdv a bs.length c A W D, .int .i64 far] w fun e w' => ∃ v, e = .returned (.tuple #[v, .int .i64 (lazyE far)]) ∧ w'.ownsRow w.heap.size 3 1 v (lazyK bs A W D far).length ((lazyK bs A W D far).map iv) ∧ Below w.heap.size w w' := by
  have hX := Blk.new w (fdc a bs.length c A W D) 25
  have hB := below_new w (.cells (fdc a bs.length c A W D).toArray 25)
  have HLk := hid (fun W' (hW' : Below w.heap.size w W') (k : Nat) (hk : k ≤ 8) => rlook_any bs a c A W D (k : Int) W' (by omega) hbc hA hW hD (hc.low hW'))
  have HPr := hid (fun (k : Nat) (a2 : Option Addr) (c2 : Nat) W' h => rprice_any a2 c2 ((bs.length : Int) - (A : Int)) (seqs (lazyP bs A W D k)) W' (by omega) (by have := lazyP_length bs A W D k; unfold seqs; rw [List.length_map]; omega) (lazyP_in bs A W D k (by omega) hW.2) h)
  have HCm := hid (fun k => lazyC_some (D := D) (far := k) hA hW.2)
  have hw1 : IntKind.i64.wrap ((bs.length : Int) - (A : Int)) = (bs.length : Int) - (A : Int) := by rw [IntKind.wrap_i64]; omega
  unfold fdc at hX hB
  have HX := hid hX
  have HB := hid hB
  by_cases he : lazyE far = 0
  · obtain ⟨kf, rfl, hkf⟩ := lazyE_ok he
    rw [he, lazyK_nat hkf, lazyCs_length]
    have HW1 := hid hw1
    have hf1 : ¬ (kf : Int) < 0 := by omega
    have hf2 : ¬ 8 < (kf : Int) := by omega
    have hkI : (kf : Int) ≤ 8 := by omega
    unfold fdv at HLk ⊢
    clear hX hB hb hbc hA hW hD hc he hw1
    go_enter Try.func18, Try.ntmps18
    go_wp2
    clear hf1 hf2
    go_loopw [6, 7] (fun v t wr => ∃ k : Nat, k ≤ kf + 1 ∧ t = .int .i64 (k : Int) ∧ wr.ownsRow (w.heap.size + 1) 3 1 v k ((lazyCs bs A W D k).map iv) ∧ Blk wr w.heap.size [.slice a bs.length c, .int .i64 (A : Int), .int .i64 W, .int .i64 D] 25 ∧ Below w.heap.size w wr) (fun _ t _ => kf + 1 - (intOf t).toNat)
    case atStart => exact ⟨0, Nat.zero_le _, rfl, World.ownsRow_nil _ _ _ _, HX.out, HB.out⟩
    case round =>
      obtain ⟨k, hk, rfl, hown, hbx, hBr⟩ := hrel
      have HO := hid hown
      have HXr := hid hbx
      have HBr := hid hBr
      by_cases hlt : k ≤ kf
      · have HK := hid hlt
        have hkk : (k : Int) ≤ (kf : Int) := by omega
        have HLc := hid (HLk.out wr HBr.out k (by omega))
        rw [lazyL_nat (by omega), lazyE_nat (by omega)] at HLc
        have HPk := hid (HPr.out k)
        have HCk := hid (HCm.out k)
        have HS := hid (lazyCs_succ bs A W D k)
        rw [HCk.out] at HPk
        generalize seqs (lazyP bs A W D k) = l at *
        generalize lazyC bs A W D k = r at *
        unfold costR at HPk
        dsimp only [Option.getD, Option.isSome] at HPk
        have b0 := hbx.cell (k := 0) rfl
        have b1 := hbx.cell (k := 1) rfl
        have b2 := hbx.cell (k := 2) rfl
        have b3 := hbx.cell (k := 3) rfl
        have hw1 := HW1.out
        clear hown hbx hBr hk hlt
        go_wp2_with fail
        refine HLc.out.mono ?_
        rintro e w1 ⟨v1, rfl, hown, hb1⟩
        obtain ⟨a1, c1, rfl⟩ := own_slice hown
        have HCl := hid ((Sl.of_owns hown).cells' rfl)
        have HO1 := hid (own_low HO.out hb1)
        have HX1 := hid (HXr.out.below hb1 HXr.out.lt)
        have HB1 := hid (HBr.out.trans (hb1.mono HBr.out.size))
        clear hown hb1 b0 b1 b2 b3
        have b0 := HX1.out.cell (k := 0) rfl
        have b1 := HX1.out.cell (k := 1) rfl
        go_wp2_with fail
        refine (HPk.out _ _ _ HCl.out).mono ?_
        rintro e w2 ⟨rfl, hb2⟩
        have HO2 := hid (own_low HO1.out hb2)
        have HX2 := hid (HX1.out.below hb2 HX1.out.lt)
        have HB2 := hid (HB1.out.trans (hb2.mono HB1.out.size))
        have hss : w.heap.size + 1 ≤ w2.heap.size := HX2.out.lt
        clear hb2 b0 b1
        obtain ⟨av, cv, rfl⟩ := own_slice HO2.out
        go_wp2_with (at_builtin; refine Hid.out ?_)
        refine hid ?_
        refine wpList_append1 rfl _ _ 38 rfl 3 _ 1 8 Try.underlying38 Try.info_int rfl (by decide) (by decide) _ (w.heap.size + 1) _ _ _ [.int .i64 r] rfl ?hu rfl rfl (by exact HO2.out) ?hn hss ?hk
        case hu => simp [Value.oneCell']
        case hn => have := HK.out; omega
        case hk =>
          intro v' w3 hown' hg
          have hbg := below_grown HO2.out hg hss
          have HB3 := hid (HB2.out.trans (hbg.mono (Nat.le_succ _)))
          have HX3 := hid (HX2.out.grown hg (own_neT HO2.out HX2.out (by decide)))
          have HO3 := hid (show w3.ownsRow (w.heap.size + 1) 3 1 v' (k + 1) ((lazyCs bs A W D (k + 1)).map iv) from by
            rw [HS.out, List.map_append]
            exact hown')
          clear hown' hg hbg
          go_wp2
          go_roundw
          case rel => exact ⟨k + 1, by have := HK.out; omega, by go_num, HO3.out, HX3.out, HB3.out⟩
          case measure => have := HK.out; simp [intOf]; omega
      · obtain rfl : k = kf + 1 := by omega
        have hkk : ¬ ((kf + 1 : Nat) : Int) ≤ (kf : Int) := by omega
        have HOf := hid (own_le HO.out (Nat.le_succ w.heap.size))
        clear hown hbx
        go_wp2
        go_ret2
        exact ⟨_, rfl, HOf.out, HBr.out⟩
  · have hl : lazyK bs A W D far = [] := by unfold lazyK; rw [if_neg he]
    have hcs := (lazyE_bad he).2
    rw [hl, (lazyE_bad he).1]
    unfold fdv
    clear hX hB hb hbc hA hW hD hc he hl HLk HPr HCm hw1
    rcases hcs with h1 | ⟨h1, h2⟩
    all_goals
      go_enter Try.func18, Try.ntmps18
      go_wp2
      go_ret2
      exact ⟨_, rfl, World.ownsRow_nil _ _ _ _, HB.out⟩

set_option maxRecDepth 100000 in
set_option maxHeartbeats 4000000 in
theorem rlbest_any (bs : List UInt8) (a : Option Addr) (c A : Nat) (W D far : Int) (w : World) (hb : bs.length ≤ 90000) (hbc : bs.length ≤ c) (hA : A ≤ bs.length) (hW : 1 ≤ W ∧ W ≤ 134217728) (hD : 1 ≤ D ∧ D ≤ 4096)
    (hc : CellsAt w a (bs.map bv)) :
    Calls Try.prog 20 #[fdv a bs.length c A W D, .int .i64 far] w (RetV w (.tuple #[.int .i64 (lazyBo bs A W D far), .int .i64 (lazyBp bs A W D far), .int .i64 (lazyE far)])) := by
  have hX := Blk.new w (fdc a bs.length c A W D) 25
  have hB := below_new w (.cells (fdc a bs.length c A W D).toArray 25)
  have HPr := hid (rprices_any bs a c A W D far _ hb hbc hA hW hD (hc.low hB))
  unfold fdc at hX hB HPr
  have HB := hid hB
  have b0 := hX.cell (k := 0) rfl
  have b1 := hX.cell (k := 1) rfl
  have b2 := hX.cell (k := 2) rfl
  have b3 := hX.cell (k := 3) rfl
  unfold fdv at HPr ⊢
  clear hX hB hb hbc hA hW hD hc
  by_cases he : lazyE far = 0
  · obtain ⟨kf, rfl, hkf⟩ := lazyE_ok he
    have e1 : lazyBo bs A W D (kf : Int) = (leastGo (lazyC bs A W D) (kf + 1) : Nat) := by unfold lazyBo lazyB; rw [if_pos he, Int.toNat_natCast]
    have e2 : lazyBp bs A W D (kf : Int) = lazyC bs A W D (leastGo (lazyC bs A W D) (kf + 1)) := by unfold lazyBp lazyB; rw [if_pos he, Int.toNat_natCast]
    rw [he, lazyK_nat hkf] at HPr
    rw [he, e1, e2]
    have HG := hid (fun k (hk : k < kf + 1) => lazyCs_get (bs := bs) (A := A) (W := W) (D := D) (n := kf + 1) hk)
    rw [lazyCs_length] at HPr
    generalize lazyC bs A W D = f at *
    generalize lazyCs bs A W D (kf + 1) = L at *
    clear he e1 e2
    go_enter Try.func20, Try.ntmps20
    go_wp2_with fail
    refine HPr.out.mono ?_
    rintro e w1 ⟨v, rfl, hown, hb1⟩
    obtain ⟨av, cv, rfl⟩ := own_slice hown
    have HB1 := hid (HB.out.trans (hb1.mono HB.out.size))
    have HC1 := hid (fun k (hk : k < kf + 1) => ((Sl.of_owns hown).cells' rfl) k (iv (f k)) (by rw [List.getElem?_map, HG.out k hk]; rfl))
    clear hown hb1 b0 b1 b2 b3 HPr
    go_wp2_with fail
    go_loopw [9, 10] (fun t i wr => ∃ k : Nat, 1 ≤ k ∧ k ≤ kf + 1 ∧ i = .int .i64 (k : Int) ∧ t = .int .i64 (leastGo f k : Nat) ∧ ∃ m, wr = w1.drewN m) (fun _ i _ => kf + 1 - (intOf i).toNat)
    case atStart => exact ⟨1, Nat.le_refl _, by omega, rfl, by rw [leastGo_one]; rfl, 0, rfl⟩
    case round =>
      obtain ⟨k, hk1, hk, rfl, rfl, m, rfl⟩ := hrel
      have hlt2 : leastGo f k < k := by
        obtain ⟨j, rfl⟩ : ∃ j, k = j + 1 := ⟨k - 1, by omega⟩
        exact leastGo_lt f j
      have hstep : leastGo f (k + 1) = if f k < f (leastGo f k) then k else leastGo f k := rfl
      generalize hbk : leastGo f k = b at *
      have HBk := hid hbk
      clear hbk
      by_cases hlt : k < kf + 1
      · obtain ⟨bl, of', rfl, _, d1⟩ := HC1.out k hlt
        obtain ⟨_, _, e2, _, d2⟩ := HC1.out b (by omega)
        cases e2
        unfold iv at d1 d2
        have HS := hid hstep
        have HK := hid (And.intro hlt hkf)
        have hkI : (k : Int) < ((kf + 1 : Nat) : Int) := by omega
        have hbI : (b : Int) < ((kf + 1 : Nat) : Int) := by omega
        have hk8 : (k : Int) ≤ 8 := by omega
        have hbl : b < kf + 1 := by omega
        have e0 : ∀ q, (w1.drewN m).drewN q = w1.drewN (m + q) := fun q => World.drewN_drewN _ _ _
        by_cases hless : f k < f b
        · have ht : decide (f k < f b) = true := decide_eq_true hless
          rw [if_pos hless] at HS
          clear hstep hless
          generalize f k = x at *
          generalize f b = y at *
          go_wp2_with fail
          go_quiet (fail)
          go_wp2
          go_roundw
          case rel => exact ⟨k + 1, by omega, by have := HK.out.1; omega, by go_num, by rw [HS.out], _, rfl⟩
          case measure => have := HK.out.1; simp [intOf]; omega
        · have ht : decide (f k < f b) = false := decide_eq_false hless
          rw [if_neg hless] at HS
          clear hstep hless
          generalize f k = x at *
          generalize f b = y at *
          go_wp2_with fail
          go_quiet (fail)
          go_wp2
          go_roundw
          case rel => exact ⟨k + 1, by omega, by have := HK.out.1; omega, by go_num, by rw [HS.out], _, rfl⟩
          case measure => have := HK.out.1; simp [intOf]; omega
      · obtain rfl : k = kf + 1 := by omega
        obtain ⟨bl, of', rfl, _, d1⟩ := HC1.out b hlt2
        unfold iv at d1
        have hbI : (b : Int) < ((kf + 1 : Nat) : Int) := by omega
        clear hstep
        generalize hy : f b = y at *
        have HY := hid hy
        clear hy
        go_wp2_with fail
        go_quiet (fail)
        have HB9 := hid (below_drewN (below_drewN HB1.out m) nq)
        go_wp2
        go_ret3
        rw [HBk.out, HY.out]
        exact ⟨rfl, HB9.out⟩
  · have e1 : lazyBo bs A W D far = 0 := by unfold lazyBo; rw [if_neg he]
    have e2 : lazyBp bs A W D far = 0 := by unfold lazyBp; rw [if_neg he]
    have e3 := (lazyE_bad he).1
    rw [e3] at HPr
    rw [e1, e2, e3]
    clear he e1 e2 e3
    go_enter Try.func20, Try.ntmps20
    go_wp2_with fail
    refine HPr.out.mono ?_
    rintro e w1 ⟨v, rfl, hown, hb1⟩
    obtain ⟨av, cv, rfl⟩ := own_slice hown
    have HB1 := hid (HB.out.trans (hb1.mono HB.out.size))
    clear hown hb1 b0 b1 b2 b3
    go_wp2
    go_ret3
    exact ⟨rfl, HB1.out⟩
end Go.Proofs.Ytclheffeiaaodaa
