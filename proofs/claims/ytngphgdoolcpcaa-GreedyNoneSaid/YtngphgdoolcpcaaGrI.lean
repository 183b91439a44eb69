/-
  The walks of layer 30: the greedy plan.
-/
import Derived.Test.YtngphgdoolcpcaaGrH
import Derived.Test.YtngphgdoolcpcaaMatchI
namespace Go.Port
open Go.RowKit
theorem stc_get {l : List (Int × Sq)} {k : Nat} {x : Int × Sq} (h : l[k]? = some x) (j : Nat) (hj : j < 4) : (l.flatMap stc)[k * 4 + j]? = (stc x)[j]? := by
  obtain ⟨h1, h2⟩ := List.getElem?_eq_some_iff.1 h
  have hl : ((l.take k).flatMap stc).length = k * 4 := by rw [stc_length, List.length_take, Nat.min_eq_left (Nat.le_of_lt h1)]
  have e2 : l.flatMap stc = (l.take k).flatMap stc ++ (stc l[k] ++ (l.drop (k + 1)).flatMap stc) := by
    conv => lhs; rw [← List.take_append_drop k l, List.drop_eq_getElem_cons h1]
    rw [List.flatMap_append, List.flatMap_cons]
  subst h2
  rw [e2, List.getElem?_append_right (by omega), hl, Nat.add_sub_cancel_left, List.getElem?_append_left (by simp [stc]; omega)]
end Go.Port
namespace Go.Proofs.Ytngphgdoolcpcaa
open Go.RowKit Go.Port

set_option maxRecDepth 100000 in
set_option maxHeartbeats 8000000 in
theorem gfrom_any (bs : List UInt8) (A : Nat) (W D : Int) (F : Nat) (p least : Int) (w : World) (h : FdAt 57 119 bs A W D F w) :
    Calls Try.prog 19 #[.pointer (some ⟨F, 0, none⟩), .int .i64 p, .int .i64 least] w fun e w' => ∃ v, e = .returned (.tuple #[v, .int .i64 (fromE bs A p least)]) ∧ w'.ownsRow w.heap.size 45 3 v (seqs (fromL bs A W D p least)).length ((seqs (fromL bs A W D p least)).flatMap sqc) ∧ Below w.heap.size w w' := by
  have hlen := fromL_length bs A W D p least
  have hbn := h.hn
  by_cases he : fromE bs A p least = 0
  · have HSt := hid (gsteps_ok bs A W D F p least w h he)
    rw [he]
    have hln : (fromL bs A W D p least).length ≤ 1000000 := Nat.le_trans hlen hbn
    clear h he hlen hbn
    generalize fromL bs A W D p least = L at *
    go_enter Try.func19, Try.ntmps19
    go_wp2_with fail
    refine HSt.out.mono ?_
    rintro e w1 ⟨v, rfl, hown, hb1⟩
    obtain ⟨av, cv, rfl⟩ := own_slice hown
    have hcl := (Sl.of_owns hown).cells' rfl
    have hcap := (Sl.of_owns hown).cap rfl
    have HC := hid hcl
    have HB1 := hid hb1
    have HC0 := hid hcap
    clear hown hcl hb1 HSt hcap
    go_wp2
    go_loopg [6, 9] L.length (fun g v t wr => ∃ (pre rest : List (Int × Sq)) (a : Option Addr) (c : Nat), Hid (L = pre ++ rest ∧ CellsAt w1 a (rest.flatMap stc) ∧ rest.length ≤ c) ∧ rest.length = g ∧ t = .slice a rest.length c ∧ wr.ownsRow w1.heap.size 45 3 v pre.length ((seqs pre).flatMap sqc) ∧ Below w1.heap.size w1 wr)
    case atStart => exact ⟨[], L, av, cv, hid ⟨rfl, HC.out, HC0.out.1⟩, rfl, rfl, World.ownsRow_nil _ _ _ _, Below.refl _ _⟩
    case round =>
      obtain ⟨pre, rest, a, c, HI, hgl, rfl, hown, hBr⟩ := hrel
      have HO := hid hown
      have HBr := hid hBr
      have HGl := hid hgl
      clear hgl
      cases rest with
      | nil =>
        have hE : L = pre := by rw [HI.out.1, List.append_nil]
        subst hE
        have HO9 := hid (own_le hown HB1.out.size)
        clear hown hBr
        go_wp2
        go_ret2
        unfold seqs
        rw [List.length_map]
        exact ⟨_, rfl, HO9.out, HB1.out.trans (HBr.out.mono HB1.out.size)⟩
      | cons y rest =>
        obtain ⟨ya, ⟨yl, yn, yo⟩⟩ := y
        have hcc := HI.out.2.1
        have hle := HI.out.2.2
        obtain ⟨b, off, rfl, hbl, _⟩ := hcc 0 (.int .i64 ya) rfl
        obtain ⟨_, _, e, _, x1⟩ := hcc 1 (.int .i64 yl) rfl
        cases e
        obtain ⟨_, _, e, _, x2⟩ := hcc 2 (.int .i64 yn) rfl
        cases e
        obtain ⟨_, _, e, _, x3⟩ := hcc 3 (.int .i64 yo) rfl
        cases e
        replace x1 := (hBr.cell (p := ⟨b, off + 1, none⟩) hbl).trans x1
        replace x2 := (hBr.cell (p := ⟨b, off + 2, none⟩) hbl).trans x2
        replace x3 := (hBr.cell (p := ⟨b, off + 3, none⟩) hbl).trans x3
        have hL2 : L = (pre ++ [((ya, ⟨yl, yn, yo⟩) : Int × Sq)]) ++ rest := by rw [HI.out.1, List.append_assoc]; rfl
        have hpl : pre.length + rest.length + 1 ≤ 1000000 := by
          have h1 := hln
          rw [hL2] at h1
          simp only [List.length_append, List.length_cons, List.length_nil] at h1
          omega
        have HC2 := hid (show CellsAt w1 (some ⟨b, off + 4, none⟩) (rest.flatMap stc) from (fun j u hu => by
          obtain ⟨b2, o2, e1, e2, e3⟩ := hcc (4 + j) u (by
            show ([_, _, _, _] ++ rest.flatMap stc)[4 + j]? = some u
            rw [List.getElem?_append_right (by simp)]
            simpa using hu)
          simp only [Option.some.injEq, Addr.mk.injEq, and_true] at e1
          obtain ⟨rfl, rfl⟩ := e1
          exact ⟨b, off + 4, rfl, e2, by rw [Nat.add_assoc]; exact e3⟩))
        have HL2 := hid hL2
        have HPl := hid hpl
        have hbs := hBr.size
        obtain ⟨av, cv, rfl⟩ := own_slice hown
        simp only [List.length_cons] at hle ⊢
        have hcI : ((rest.length : Int) + 1) ≤ (c : Int) := by omega
        have hc1 : rest.length + 1 ≤ c := hle
        have hlI : (0 : Int) < ((rest.length + 1 : Nat) : Int) := by omega
        have hlI2 : (1 : Int) ≤ ((rest.length + 1 : Nat) : Int) := by omega
        clear hcc hown hBr hL2 hpl HI hle
        go_wp2_with (at_builtin; refine Hid.out ?_)
        refine hid ?_
        refine wpList_append1 rfl _ _ 29 rfl 45 _ 3 24 Try.underlying29 Try.info_seq rfl (by decide) (by decide) _ w1.heap.size _ _ _ [.int .i64 yl, .int .i64 yn, .int .i64 yo] rfl ?hu rfl rfl (by exact HO.out) ?hn hbs ?hk
        case hu => simp [Value.oneCell']
        case hn => have := HPl.out; omega
        case hk =>
          intro v' w3 hown' hg
          have hbg := below_grown HO.out hg hbs
          have HB3 := hid (HBr.out.trans hbg)
          have HO3 := hid hown'
          clear hown' hg hbg x1 x2 x3
          by_cases h1 : rest.length = 0
          · have hr : rest = [] := List.eq_nil_of_length_eq_zero h1
            subst hr
            go_wp2
            go_roundg 0
            case measure => have := HGl.out; simp only [List.length_cons] at this; omega
            case rel =>
              refine ⟨pre ++ [((ya, ⟨yl, yn, yo⟩) : Int × Sq)], [], some ⟨b, off, none⟩, 0, hid ⟨HL2.out, (fun j u hu => by simp at hu), Nat.le_refl _⟩, rfl, rfl, ?_, HB3.out⟩
              rw [seqs_append, List.length_append, List.flatMap_append]
              exact HO3.out
          · go_wp2
            go_roundg rest.length
            case measure => have := HGl.out; simp only [List.length_cons] at this; omega
            case rel =>
              refine ⟨pre ++ [((ya, ⟨yl, yn, yo⟩) : Int × Sq)], rest, some ⟨b, off + 4, none⟩, rest.length, hid ⟨HL2.out, HC2.out, Nat.le_refl _⟩, rfl, rfl, ?_, HB3.out⟩
              rw [seqs_append, List.length_append, List.flatMap_append]
              exact HO3.out
  · have HSt := hid (gsteps_bad bs A W D F p least w h he)
    have hl : fromL bs A W D p least = [] := by unfold fromL; rw [if_neg he]
    rw [hl]
    clear h he hlen hbn hl
    go_enter Try.func19, Try.ntmps19
    go_wp2_with fail
    refine HSt.out.mono ?_
    rintro e w1 ⟨rfl, m, rfl⟩
    go_wp2_with fail
    refine wp_loop_rounds 1 ?_
    rw [rounds_succ]
    go_wp2_with fail
    go_ret2
    exact ⟨_, rfl, World.ownsRow_nil _ _ _ _, below_drewN (Below.refl _ _) m⟩

theorem gmin_any (bs : List UInt8) (A : Nat) (W D : Int) (F : Nat) (least : Int) (w : World) (h : FdAt 57 119 bs A W D F w) :
    Calls Try.prog 20 #[.pointer (some ⟨F, 0, none⟩), .int .i64 least] w fun e w' => ∃ v, e = .returned (.tuple #[v, .int .i64 (fromE bs A 0 least)]) ∧ w'.ownsRow w.heap.size 45 3 v (seqs (fromL bs A W D 0 least)).length ((seqs (fromL bs A W D 0 least)).flatMap sqc) ∧ Below w.heap.size w w' := by
  have HFr := hid (gfrom_any bs A W D F 0 least w h)
  clear h
  go_enter Try.func20, Try.ntmps20
  go_wp2_with fail
  refine HFr.out.mono ?_
  rintro e w1 ⟨v, rfl, hown, hb1⟩
  have HO := hid hown
  have HB := hid hb1
  clear hown hb1 HFr
  go_wp2
  go_ret2
  exact ⟨_, rfl, HO.out, HB.out⟩

theorem gparse_any (bs : List UInt8) (A : Nat) (W D : Int) (F : Nat) (w : World) (h : FdAt 57 119 bs A W D F w) :
    Calls Try.prog 13 #[.pointer (some ⟨F, 0, none⟩)] w fun e w' => ∃ v, e = .returned (.tuple #[v, .int .i64 0]) ∧ w'.ownsRow w.heap.size 45 3 v (seqs (fromL bs A W D 0 3)).length ((seqs (fromL bs A W D 0 3)).flatMap sqc) ∧ Below w.heap.size w w' := by
  have hA := h.hA
  have h0 : fromE bs A 0 3 = 0 := by
    unfold fromE
    rw [if_neg (by omega), if_neg (by omega)]
  have HFr := hid (gmin_any bs A W D F 3 w h)
  rw [h0] at HFr
  clear h hA h0
  go_enter Try.func13, Try.ntmps13
  go_wp2_with fail
  refine HFr.out.mono ?_
  rintro e w1 ⟨v, rfl, hown, hb1⟩
  have HO := hid hown
  have HB := hid hb1
  clear hown hb1 HFr
  go_wp2
  go_ret2
  exact ⟨_, rfl, HO.out, HB.out⟩

theorem gcost_any (bs : List UInt8) (A : Nat) (W D : Int) (F : Nat) (w : World) (h : FdAt 57 119 bs A W D F w) (hb : bs.length ≤ 100000) :
    Calls Try.prog 15 #[.pointer (some ⟨F, 0, none⟩)] w (RetV w (costR (costM ((bs.length : Int) - A) (seqs (fromL bs A W D 0 3))))) := by
  have HFr := hid (gparse_any bs A W D F w h)
  have HLe := hid (fun W' (hW' : Below w.heap.size w W') => clen_any bs A W D F W' (h.low hW'))
  have hA := h.hA
  have hW := h.hW
  have hlen := fromL_length bs A W D 0 3
  have hin := seqs_in (bs := bs) (A := A) (W := W) (D := D) (p := 0) (least := 3) (by omega) hW.2
  have hln : (seqs (fromL bs A W D 0 3)).length = (fromL bs A W D 0 3).length := by unfold seqs; rw [List.length_map]
  rw [← hln] at hlen
  have hs0 : -9223372036854775808 ≤ (bs.length : Int) - (A : Int) := by omega
  have hs1 : (bs.length : Int) - (A : Int) ≤ 1099511627776 := by omega
  generalize seqs (fromL bs A W D 0 3) = l at *
  generalize (bs.length : Int) - (A : Int) = size at *
  have HCo := hid (fun a2 c2 W' hcl => cost_any a2 c2 size l W' hs0 hs1 (by omega) hin hcl)
  unfold costR at HCo ⊢
  generalize (costM size l).getD 0 = R at *
  generalize (if (costM size l).isSome = true then (0 : Int) else 15) = E at *
  clear h hb hA hW hlen hin hln hs0 hs1
  go_enter Try.func15, Try.ntmps15
  go_wp2_with fail
  refine HFr.out.mono ?_
  rintro e w1 ⟨v, rfl, hown, hb1⟩
  obtain ⟨av, cv, rfl⟩ := own_slice hown
  have hcl := (Sl.of_owns hown).cells' rfl
  have HC := hid hcl
  have HB := hid hb1
  clear hown hb1 HFr hcl
  go_wp2_with fail
  refine (HLe.out w1 HB.out).mono ?_
  rintro e w' ⟨rfl, m, rfl⟩
  have HCc := hid (HCo.out av cv (w1.drewN m) (HC.out.low (below_drewN (Below.refl _ _) m)))
  go_wp2_with fail
  refine HCc.out.mono ?_
  rintro e w3 ⟨rfl, hb3⟩
  have HB3 := hid (HB.out.trans (((below_drewN (Below.refl w1.heap.size w1) m).trans hb3).mono HB.out.size))
  clear hb3
  go_wp2
  go_ret2
  exact ⟨rfl, HB3.out⟩
end Go.Proofs.Ytngphgdoolcpcaa
