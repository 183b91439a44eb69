/-
  The walks of the reference of layer 30: the greedy plan.
-/
import Derived.Test.YtngphgdoolcpcaaGrC
import Derived.Test.YtngphgdoolcpcaaPlanFrom
namespace Go.Proofs.Ytngphgdoolcpcaa
open Go.RowKit Go.Port

set_option maxRecDepth 100000 in
set_option maxHeartbeats 4000000 in
theorem rgreedy_any (bs : List UInt8) (a : Option Addr) (c A : Nat) (W D p least : Int) (w : World) (hb : bs.length ≤ 1000000) (hbc : bs.length ≤ c) (hA : A ≤ bs.length) (hW : 1 ≤ W ∧ W ≤ 134217728) (hD : 1 ≤ D ∧ D ≤ 4096)
    (hc : CellsAt w a (bs.map bv)) :
    Calls Try.prog 14 #[fdv a bs.length c A W D, .int .i64 p, .int .i64 least] w fun e w' => ∃ v, e = .returned (.tuple #[v, .int .i64 (fromE bs A p least)]) ∧ w'.ownsRow w.heap.size 45 3 v (fromL bs A W D p least).length ((seqs (fromL bs A W D p least)).flatMap sqc) ∧ Below w.heap.size w w' := by
  have hX := Blk.new w (fdc a bs.length c A W D) 25
  have hB := below_new w (.cells (fdc a bs.length c A W D).toArray 25)
  have HFi := hid (fun W' (hW' : Below w.heap.size w W') (q : Int) hq => rfind_any bs a c A W D q W' hb hbc hA hW hD hq (hc.low hW'))
  unfold fdc at hX hB
  unfold fdv at HFi ⊢
  unfold sqv at HFi
  have c0 := hX.cell (k := 0) rfl
  have c1 := hX.cell (k := 1) rfl
  have HX := hid hX
  have HB := hid hB
  have hw1 : IntKind.i64.wrap ((bs.length : Int) - (A : Int)) = (bs.length : Int) - (A : Int) := by rw [IntKind.wrap_i64]; omega
  by_cases h1 : least < 3
  · have e1 : fromE bs A p least = 2 := by unfold fromE; rw [if_pos h1]
    have e2 : fromL bs A W D p least = [] := by unfold fromL; rw [e1]; rfl
    rw [e1, e2]
    clear hX hB hb hbc hA hW hD hc e1 e2
    go_enter Try.func14, Try.ntmps14
    go_wp2
    go_ret2
    exact ⟨_, rfl, World.ownsRow_nil _ _ _ _, HB.out⟩
  · by_cases h2 : p < 0
    · have e1 : fromE bs A p least = 21 := by unfold fromE; rw [if_neg h1, if_pos (.inl h2)]
      have e2 : fromL bs A W D p least = [] := by unfold fromL; rw [e1]; rfl
      rw [e1, e2]
      clear hX hB hb hbc hA hW hD hc e1 e2
      go_enter Try.func14, Try.ntmps14
      go_wp2
      go_ret2
      exact ⟨_, rfl, World.ownsRow_nil _ _ _ _, HB.out⟩
    · by_cases h3 : (bs.length : Int) - (A : Int) < p
      · have e1 : fromE bs A p least = 21 := by unfold fromE; rw [if_neg h1, if_pos (.inr h3)]
        have e2 : fromL bs A W D p least = [] := by unfold fromL; rw [e1]; rfl
        rw [e1, e2]
        clear hX hB hb hbc hA hW hD hc e1 e2
        go_enter Try.func14, Try.ntmps14
        go_wp2
        go_ret2
        exact ⟨_, rfl, World.ownsRow_nil _ _ _ _, HB.out⟩
      · have e1 : fromE bs A p least = 0 := by unfold fromE; rw [if_neg h1, if_neg (by omega)]
        have e2 : fromL bs A W D p least = planS (greedyA (findS bs A W D) least) ((bs.length : Int) - A) p p := by unfold fromL; rw [e1, if_pos rfl]; rfl
        rw [e1]
        obtain ⟨L, hL⟩ : ∃ L, fromL bs A W D p least = L := ⟨_, rfl⟩
        rw [hL]
        have HL := hid (hL.symm.trans e2)
        have HLn := hid (show L.length ≤ 1000000 by rw [← hL]; exact Nat.le_trans (fromL_length _ _ _ _ _ _) hb)
        have hszI : (bs.length : Int) - (A : Int) ≤ 1000000 := by omega
        have HOk := hid (findS_ok (B := bs) (A := A) (W := W) (D := D) (least := least))
        have HIn := hid (And.intro h2 (And.intro h3 hszI))
        have HFm := hid (fun q s => @findS_form bs A W D q s)
        clear hX hB hb hbc hA hW hD hc e1 e2 hL
        go_enter Try.func14, Try.ntmps14
        go_wp2
        clear c0 c1 h1 h2 h3 hw1
        generalize (bs.length : Int) - (A : Int) = size at *
        generalize findS bs A W D = find at *
        go_loopw [1, 9, 10] (fun t v f wr => ∃ (q frm : Int) (pre : List (Int × Sq)), Hid (L = pre ++ planS (greedyA find least) size q frm ∧ 0 ≤ frm ∧ frm ≤ q ∧ q ≤ size) ∧ t = .int .i64 q ∧ f = .int .i64 frm ∧ wr.ownsRow (w.heap.size + 1) 45 3 v pre.length ((seqs pre).flatMap sqc) ∧ Blk wr w.heap.size [.slice a bs.length c, .int .i64 (A : Int), .int .i64 W, .int .i64 D] 25 ∧ Below w.heap.size w wr) (fun t _ _ _ => (size - intOf t).toNat)
        case atStart => exact ⟨p, p, [], hid ⟨HL.out, by have := HIn.out; omega, by omega, by have := HIn.out; omega⟩, rfl, rfl, World.ownsRow_nil _ _ _ _, HX.out, HB.out⟩
        case round =>
          obtain ⟨q, frm, pre, HI, rfl, rfl, hown, hbx, hBr⟩ := hrel
          have HO := hid hown
          have HX := hid hbx
          have HBr := hid hBr
          by_cases hq : q < size
          · have b0 := hbx.cell (k := 0) rfl
            have b1 := hbx.cell (k := 1) rfl
            have b2 := hbx.cell (k := 2) rfl
            have b3 := hbx.cell (k := 3) rfl
            have hi := HI.out
            have hin := HIn.out
            have HF := hid (HFi.out wr HBr.out q (by omega))
            have hw2 : IntKind.i64.wrap (q + 1) = q + 1 := by rw [IntKind.wrap_i64]; omega
            have hw3 : IntKind.i64.wrap (q - frm) = q - frm := by rw [IntKind.wrap_i64]; omega
            cases hf : find q with
            | none =>
              rw [hf] at HF
              have hgo : greedyA find least q = .go (q + 1) := by unfold greedyA; rw [hf]
              have HN := hid (show L = pre ++ planS (greedyA find least) size (q + 1) frm ∧ 0 ≤ frm ∧ frm ≤ q + 1 ∧ q + 1 ≤ size from ⟨by rw [hi.1, planS_go HOk.out frm hq hgo], by omega, by omega, by omega⟩)
              have HQ := hid hq
              clear hown hbx hBr hi hin hf hgo
              go_wp2_with fail
              refine HF.out.mono ?_
              rintro e w1 ⟨rfl, hb1⟩
              dsimp only [Option.getD, Option.isSome, Sq.zero]
              have hbn := hb1.alloc hb1.size (.cells #[.int .i64 0, .int .i64 0, .int .i64 0] 45)
              have HO2 := hid (own_low HO.out hbn)
              have HX2 := hid (HX.out.below hbn HX.out.lt)
              have HB2 := hid (HBr.out.trans (hbn.mono HBr.out.size))
              clear hb1 hbn
              go_wp2
              go_roundw
              case rel => exact ⟨q + 1, frm, pre, HN, rfl, rfl, HO2.out, HX2.out, HB2.out⟩
              case measure => have := HQ.out; simp [intOf]; omega
            | some s =>
              rw [hf] at HF
              have hfm := HFm.out q s hf
              obtain ⟨lit, len, off⟩ := s
              dsimp only [Option.getD, Option.isSome] at HF hfm
              obtain ⟨rfl, hm1, hm2, hm3, hm4, hm5, hm6⟩ := hfm
              by_cases hle : len < least
              · have hgo : greedyA find least q = .go (q + 1) := by unfold greedyA; rw [hf]; dsimp only; rw [if_pos hle]
                have HN := hid (show L = pre ++ planS (greedyA find least) size (q + 1) frm ∧ 0 ≤ frm ∧ frm ≤ q + 1 ∧ q + 1 ≤ size from ⟨by rw [hi.1, planS_go HOk.out frm hq hgo], by omega, by omega, by omega⟩)
                have HQ := hid hq
                clear hown hbx hBr hi hin hf hgo hm1 hm2 hm3 hm4 hm5 hm6
                go_wp2_with fail
                refine HF.out.mono ?_
                rintro e w1 ⟨rfl, hb1⟩
                have hbn := hb1.alloc hb1.size (.cells #[.int .i64 0, .int .i64 len, .int .i64 off] 45)
                have HO2 := hid (own_low HO.out hbn)
                have HX2 := hid (HX.out.below hbn HX.out.lt)
                have HB2 := hid (HBr.out.trans (hbn.mono HBr.out.size))
                clear hb1 hbn
                go_wp2
                go_roundw
                case rel => exact ⟨q + 1, frm, pre, HN, rfl, rfl, HO2.out, HX2.out, HB2.out⟩
                case measure => have := HQ.out; simp [intOf]; omega
              · have hgo : greedyA find least q = .take ⟨0, len, off⟩ := by unfold greedyA; rw [hf]; dsimp only; rw [if_neg hle]
                have hw4 : IntKind.i64.wrap (q + len) = q + len := by rw [IntKind.wrap_i64]; omega
                have hL2 : L = (pre ++ [(q, ⟨q - frm, len, off⟩)]) ++ planS (greedyA find least) size (q + len) (q + len) := by rw [hi.1, planS_take HOk.out frm hq hgo, List.append_assoc]; rfl
                have HPl := hid (show pre.length + 1 ≤ 1000000 by
                  have h1 := HLn.out
                  rw [hL2] at h1
                  simp only [List.length_append, List.length_cons, List.length_nil] at h1
                  omega)
                have HN := hid (show L = (pre ++ [(q, ⟨q - frm, len, off⟩)]) ++ planS (greedyA find least) size (q + len) (q + len) ∧ 0 ≤ q + len ∧ q + len ≤ q + len ∧ q + len ≤ size from ⟨hL2, by omega, by omega, by omega⟩)
                have HQ := hid (And.intro hq hm1)
                clear hown hbx hBr hi hin hf hgo hm1 hm2 hm3 hm4 hm5 hm6 hL2
                go_wp2_with fail
                refine HF.out.mono ?_
                rintro e w1 ⟨rfl, hb1⟩
                have hbs := hb1.alloc hb1.size (.cells #[.int .i64 (q - frm), .int .i64 len, .int .i64 off] 45)
                have HO2 := hid (own_low HO.out hbs)
                have HX2 := hid (HX.out.below hbs HX.out.lt)
                have hbw := HBr.out.trans (hbs.mono HBr.out.size)
                have hss : w.heap.size + 1 ≤ (w1.alloc (.cells #[.int .i64 (q - frm), .int .i64 len, .int .i64 off] 45)).heap.size := by have := HX2.out.lt; omega
                have HB2 := hid hbw
                clear hb1 hbs hbw
                obtain ⟨av, cv, rfl⟩ := own_slice HO2.out
                go_wp2_with (at_builtin; refine Hid.out ?_)
                refine hid ?_
                refine wpList_append1 rfl _ _ 29 rfl 45 _ 3 24 Try.underlying29 Try.info_seq rfl (by decide) (by decide) _ (w.heap.size + 1) _ _ _ [.int .i64 (q - frm), .int .i64 len, .int .i64 off] rfl ?hu rfl ?hx (by exact HO2.out) ?hn ?hb ?hk
                case hu => simp [Value.oneCell']
                case hx => exact congrArg (fun z => Value.slice (some ⟨z, 0, none⟩) 1 1) (show w1.heap.size + 1 = _ by simp)
                case hn => have := HPl.out; omega
                case hb => exact hss
                case hk =>
                  intro v' w3 hown' hg
                  have hbg := below_grown HO2.out hg hss
                  have HB3 := hid (HB2.out.trans (hbg.mono (Nat.le_succ _)))
                  have HX3 := hid (HX2.out.grown hg (own_neT HO2.out HX2.out (by decide)))
                  have HO3 := hid hown'
                  clear hown' hg hbg
                  go_wp2
                  go_roundw
                  case rel =>
                    refine ⟨q + len, q + len, pre ++ [(q, ⟨q - frm, len, off⟩)], HN, rfl, rfl, ?_, HX3.out, HB3.out⟩
                    rw [seqs_append, List.length_append, List.flatMap_append]
                    exact HO3.out
                  case measure => have := HQ.out; simp [intOf]; omega
          · have hi := HI.out
            have hE : L = pre := by rw [hi.1, planS_end _ frm (by omega), List.append_nil]
            subst hE
            have HO := hid (own_le HO.out (Nat.le_succ _))
            clear hown hbx hi
            go_wp2
            go_ret2
            exact ⟨_, rfl, HO.out, HBr.out⟩
end Go.Proofs.Ytngphgdoolcpcaa
