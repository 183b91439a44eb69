/-
  The walks of layer 31: steps that are not made; Lookahead.
-/
import Derived.Test.YtclheffeiaaodaaLzC
import Derived.Test.YtclheffeiaaodaaGrI
import Derived.Test.YtclheffeiaaodaaGrNone
import Derived.Test.YtclheffeiaaodaaMade
namespace Go.Port
open Go.RowKit
theorem lazyE_ok {far : Int} (h : lazyE far = 0) : ∃ k : Nat, far = (k : Int) ∧ k ≤ 8 := by
  unfold lazyE at h
  split at h
  · cases h
  · exact ⟨far.toNat, by omega, by omega⟩
theorem lazyE_nat {k : Nat} (h : k ≤ 8) : lazyE (k : Int) = 0 := by
  unfold lazyE
  rw [if_neg (by omega)]
theorem lazyE_bad {far : Int} (h : lazyE far ≠ 0) : lazyE far = 2 ∧ (far < 0 ∨ (0 ≤ far ∧ 8 < far)) := by
  unfold lazyE at h ⊢
  split at h
  · rename_i hc
    rw [if_pos hc]
    exact ⟨rfl, by omega⟩
  · exact absurd rfl h
theorem lazyL_nat {bs : List UInt8} {A : Nat} {W D : Int} {k : Nat} (h : k ≤ 8) : lazyL bs A W D (k : Int) = lazyP bs A W D k := by
  unfold lazyL
  rw [if_pos (lazyE_nat h), Int.toNat_natCast]
theorem lazyP_zero {bs : List UInt8} {A : Nat} {W D : Int} (hA : A ≤ bs.length) : lazyP bs A W D 0 = fromL bs A W D 0 3 := by
  rw [fromL_ok (Int.le_refl _) (Int.le_refl _) (by omega)]
  unfold lazyP
  rw [lazy_zero (fun p s h => (findS_form h).2.1)]
end Go.Port
namespace Go.Proofs.Ytclheffeiaaodaa
open Go.RowKit Go.Port

set_option maxRecDepth 100000 in
set_option maxHeartbeats 4000000 in
theorem lzsteps_bad (bs : List UInt8) (A : Nat) (W D : Int) (F : Nat) (far : Int) (w : World) (h : FdAt 64 130 bs A W D F w) (he : lazyE far ≠ 0) :
    Calls Try.prog 31 #[.pointer (some ⟨F, 0, none⟩), .int .i64 far] w fun e w' => e = .returned (.tuple #[.slice none 0 0, .int .i64 2]) ∧ w = w' := by
  have HDe := hid (cdepth_any bs A W D F w h)
  have hD := h.hD.1
  have hDn : ¬ D = 0 := by omega
  have hDb : (D == 0) = false := beq_eq_false_iff_ne.2 hDn
  have hc := (lazyE_bad he).2
  clear h hD he
  go_enter Try.func31, Try.ntmps31
  go_wp2_with fail
  refine wp_scope_jumps 0 (fun a' w' => (∃ x0 x1 x2 x3 x4 x6 x7 x8 x9 x10 x11 x12 x13 x14 x15 x16 x17 x18 x19 x20 x21 x22 x23 x24 x25 x26 x27 x28 x29 x30 x31 x32 x33 x34 x35 x36 x37 x38 x39 : Value, a' = { tmps := #[x0, x1, x2, x3, x4, .int .i64 2, x6, x7, x8, x9, x10, x11, x12, x13, x14, x15, x16, x17, x18, x19, x20, x21, x22, x23, x24, x25, x26, x27, x28, x29, x30, x31, x32, x33, x34, x35, x36, x37, x38, x39], defers := [] }) ∧ w = w') (fun _ _ => 0) rfl ?first ?pass
  case first =>
    rcases hc with h1 | ⟨h1, h2⟩
    all_goals
      go_wp2_with fail
      refine HDe.out.mono ?_
      rintro e w' ⟨rfl, rfl⟩
      go_wp2_with fail
      refine wp_goto ?_
      refine And.intro (rfl : 0 = 0) ?_
      refine ⟨?_, rfl⟩
      repeat apply Exists.intro
      rfl
  case pass =>
    rintro a1 w1 ⟨⟨x0, x1, x2, x3, x4, x6, x7, x8, x9, x10, x11, x12, x13, x14, x15, x16, x17, x18, x19, x20, x21, x22, x23, x24, x25, x26, x27, x28, x29, x30, x31, x32, x33, x34, x35, x36, x37, x38, x39, rfl⟩, rfl⟩
    go_wp2
    simp only [Exit.jump]
    go_ret2
    exact ⟨rfl, rfl⟩

set_option maxRecDepth 100000 in
set_option maxHeartbeats 4000000 in
theorem lzsteps_none (q : Option Addr) (far : Int) (w : World) (h : NoFd q w) :
    Calls Try.prog 31 #[.pointer q, .int .i64 far] w fun e w' => e = .returned (.tuple #[.slice none 0 0, .int .i64 1]) ∧ w = w' := by
  have HDe := hid (cdepth_none q w h)
  clear h
  go_enter Try.func31, Try.ntmps31
  go_wp2_with fail
  refine wp_scope_jumps 0 (fun a' w' => (∃ x0 x1 x2 x3 x4 x6 x7 x8 x9 x10 x11 x12 x13 x14 x15 x16 x17 x18 x19 x20 x21 x22 x23 x24 x25 x26 x27 x28 x29 x30 x31 x32 x33 x34 x35 x36 x37 x38 x39 : Value, a' = { tmps := #[x0, x1, x2, x3, x4, .int .i64 1, x6, x7, x8, x9, x10, x11, x12, x13, x14, x15, x16, x17, x18, x19, x20, x21, x22, x23, x24, x25, x26, x27, x28, x29, x30, x31, x32, x33, x34, x35, x36, x37, x38, x39], defers := [] }) ∧ w = w') (fun _ _ => 0) rfl ?first ?pass
  case first =>
    go_wp2_with fail
    refine HDe.out.mono ?_
    rintro e w' ⟨rfl, rfl⟩
    go_wp2_with fail
    refine wp_goto ?_
    refine And.intro (rfl : 0 = 0) ?_
    refine ⟨?_, rfl⟩
    repeat apply Exists.intro
    rfl
  case pass =>
    rintro a1 w1 ⟨⟨x0, x1, x2, x3, x4, x6, x7, x8, x9, x10, x11, x12, x13, x14, x15, x16, x17, x18, x19, x20, x21, x22, x23, x24, x25, x26, x27, x28, x29, x30, x31, x32, x33, x34, x35, x36, x37, x38, x39, rfl⟩, rfl⟩
    go_wp2
    simp only [Exit.jump]
    go_ret2
    exact ⟨rfl, rfl⟩

theorem look_none (q : Option Addr) (far : Int) (w : World) (h : NoFd q w) :
    Calls Try.prog 13 #[.pointer q, .int .i64 far] w fun e w' => e = .returned (.tuple #[.slice none 0 0, .int .i64 1]) ∧ w = w' := by
  by_cases h0 : far = 0
  · subst h0
    have HG := hid (gparse_none q w h)
    clear h
    go_enter Try.func13, Try.ntmps13
    go_wp2_with fail
    refine HG.out.mono ?_
    rintro e w' ⟨rfl, rfl⟩
    go_wp2
    go_ret2
    exact ⟨rfl, rfl⟩
  · have HG := hid (lzsteps_none q far w h)
    have hb : (far == 0) = false := beq_eq_false_iff_ne.2 h0
    clear h
    go_enter Try.func13, Try.ntmps13
    go_wp2_with fail
    refine HG.out.mono ?_
    rintro e w' ⟨rfl, rfl⟩
    go_wp2_with fail
    refine wp_loop_rounds 1 ?_
    rw [rounds_succ]
    go_wp2
    go_ret2
    exact ⟨rfl, rfl⟩

set_option maxRecDepth 100000 in
set_option maxHeartbeats 8000000 in
theorem look_any (bs : List UInt8) (A : Nat) (W D : Int) (F : Nat) (far : Int) (w : World) (h : FdAt 64 130 bs A W D F w) :
    Calls Try.prog 13 #[.pointer (some ⟨F, 0, none⟩), .int .i64 far] w fun e w' => ∃ v, e = .returned (.tuple #[v, .int .i64 (lazyE far)]) ∧ w'.ownsRow w.heap.size 49 3 v (seqs (lazyL bs A W D far)).length ((seqs (lazyL bs A W D far)).flatMap sqc) ∧ Below w.heap.size w w' := by
  by_cases h0 : far = 0
  · subst h0
    have HG := hid (gparse_any bs A W D F w h)
    rw [show (0 : Int) = ((0 : Nat) : Int) from rfl, lazyL_nat (Nat.zero_le _), lazyP_zero h.hA, lazyE_nat (Nat.zero_le _)]
    clear h
    go_enter Try.func13, Try.ntmps13
    go_wp2_with fail
    refine HG.out.mono ?_
    rintro e w1 ⟨v, rfl, hown, hb1⟩
    have HO := hid hown
    have HB := hid hb1
    clear hown hb1 HG
    go_wp2
    go_ret2
    exact ⟨_, rfl, HO.out, HB.out⟩
  have hb0 : (far == 0) = false := beq_eq_false_iff_ne.2 h0
  have hlen := lazyL_length bs A W D far
  have hbn := h.hn
  by_cases he : lazyE far = 0
  · obtain ⟨kf, rfl, hkf⟩ := lazyE_ok he
    have HSt := hid (lzsteps_ok bs A W D F kf w h hkf)
    rw [← lazyL_nat hkf] at HSt
    rw [he]
    have hln : (lazyL bs A W D (kf : Int)).length ≤ 1000000 := Nat.le_trans hlen hbn
    clear h he hlen hbn
    generalize lazyL bs A W D (kf : Int) = L at *
    go_enter Try.func13, Try.ntmps13
    go_wp2_with fail
    refine HSt.out.mono ?_
    rintro e w1 ⟨v, rfl, hown, hb1⟩
    obtain ⟨av, cv, rfl⟩ := own_slice hown
    have hcl := (Sl.of_owns hown).cells' rfl
    have hcap := (Sl.of_owns hown).cap rfl
    have HC := hid hcl
    have HB1 := hid hb1
    have HC0 := hid hcap
    clear hown hcl hb1 HSt hcap
    go_wp2
    go_loopg [4, 7] L.length (fun g v t wr => ∃ (pre rest : List (Int × Sq)) (a : Option Addr) (c : Nat), Hid (L = pre ++ rest ∧ CellsAt w1 a (rest.flatMap stc) ∧ rest.length ≤ c) ∧ rest.length = g ∧ t = .slice a rest.length c ∧ wr.ownsRow w1.heap.size 49 3 v pre.length ((seqs pre).flatMap sqc) ∧ Below w1.heap.size w1 wr)
    case atStart => exact ⟨[], L, av, cv, hid ⟨rfl, HC.out, HC0.out.1⟩, rfl, rfl, World.ownsRow_nil _ _ _ _, Below.refl _ _⟩
    case round =>
      obtain ⟨pre, rest, a, c, HI, hgl, rfl, hown, hBr⟩ := hrel
      have HO := hid hown
      have HBr := hid hBr
      have HGl := hid hgl
      clear hgl
      cases rest with
      | nil =>
        have hE : L = pre := by rw [HI.out.1, List.append_nil]
        subst hE
        have HO9 := hid (own_le hown HB1.out.size)
        clear hown hBr
        go_wp2
        go_ret2
        unfold seqs
        rw [List.length_map]
        exact ⟨_, rfl, HO9.out, HB1.out.trans (HBr.out.mono HB1.out.size)⟩
      | cons y rest =>
        obtain ⟨ya, ⟨yl, yn, yo⟩⟩ := y
        have hcc := HI.out.2.1
        have hle := HI.out.2.2
        obtain ⟨b, off, rfl, hbl, _⟩ := hcc 0 (.int .i64 ya) rfl
        obtain ⟨_, _, e, _, x1⟩ := hcc 1 (.int .i64 yl) rfl
        cases e
        obtain ⟨_, _, e, _, x2⟩ := hcc 2 (.int .i64 yn) rfl
        cases e
        obtain ⟨_, _, e, _, x3⟩ := hcc 3 (.int .i64 yo) rfl
        cases e
        replace x1 := (hBr.cell (p := ⟨b, off + 1, none⟩) hbl).trans x1
        replace x2 := (hBr.cell (p := ⟨b, off + 2, none⟩) hbl).trans x2
        replace x3 := (hBr.cell (p := ⟨b, off + 3, none⟩) hbl).trans x3
        have hL2 : L = (pre ++ [((ya, ⟨yl, yn, yo⟩) : Int × Sq)]) ++ rest := by rw [HI.out.1, List.append_assoc]; rfl
        have hpl : pre.length + rest.length + 1 ≤ 1000000 := by
          have h1 := hln
          rw [hL2] at h1
          simp only [List.length_append, List.length_cons, List.length_nil] at h1
          omega
        have HC2 := hid (show CellsAt w1 (some ⟨b, off + 4, none⟩) (rest.flatMap stc) from (fun j u hu => by
          obtain ⟨b2, o2, e1, e2, e3⟩ := hcc (4 + j) u (by
            show ([_, _, _, _] ++ rest.flatMap stc)[4 + j]? = some u
            rw [List.getElem?_append_right (by simp)]
            simpa using hu)
          simp only [Option.some.injEq, Addr.mk.injEq, and_true] at e1
          obtain ⟨rfl, rfl⟩ := e1
          exact ⟨b, off + 4, rfl, e2, by rw [Nat.add_assoc]; exact e3⟩))
        have HL2 := hid hL2
        have HPl := hid hpl
        have hbs := hBr.size
        obtain ⟨av, cv, rfl⟩ := own_slice hown
        simp only [List.length_cons] at hle ⊢
        have hcI : ((rest.length : Int) + 1) ≤ (c : Int) := by omega
        have hc1 : rest.length + 1 ≤ c := hle
        have hlI : (0 : Int) < ((rest.length + 1 : Nat) : Int) := by omega
        have hlI2 : (1 : Int) ≤ ((rest.length + 1 : Nat) : Int) := by omega
        clear hcc hown hBr hL2 hpl HI hle
        go_wp2_with (at_builtin; refine Hid.out ?_)
        refine hid ?_
        refine wpList_append1 rfl _ _ 29 rfl 49 _ 3 24 Try.underlying29 Try.info_seq rfl (by decide) (by decide) _ w1.heap.size _ _ _ [.int .i64 yl, .int .i64 yn, .int .i64 yo] rfl ?hu rfl rfl (by exact HO.out) ?hn hbs ?hk
        case hu => simp [Value.oneCell']
        case hn => have := HPl.out; omega
        case hk =>
          intro v' w3 hown' hg
          have hbg := below_grown HO.out hg hbs
          have HB3 := hid (HBr.out.trans hbg)
          have HO3 := hid hown'
          clear hown' hg hbg x1 x2 x3
          by_cases h1 : rest.length = 0
          · have hr : rest = [] := List.eq_nil_of_length_eq_zero h1
            subst hr
            go_wp2
            go_roundg 0
            case measure => have := HGl.out; simp only [List.length_cons] at this; omega
            case rel =>
              refine ⟨pre ++ [((ya, ⟨yl, yn, yo⟩) : Int × Sq)], [], some ⟨b, off, none⟩, 0, hid ⟨HL2.out, (fun j u hu => by simp at hu), Nat.le_refl _⟩, rfl, rfl, ?_, HB3.out⟩
              rw [seqs_append, List.length_append, List.flatMap_append]
              exact HO3.out
          · go_wp2
            go_roundg rest.length
            case measure => have := HGl.out; simp only [List.length_cons] at this; omega
            case rel =>
              refine ⟨pre ++ [((ya, ⟨yl, yn, yo⟩) : Int × Sq)], rest, some ⟨b, off + 4, none⟩, rest.length, hid ⟨HL2.out, HC2.out, Nat.le_refl _⟩, rfl, rfl, ?_, HB3.out⟩
              rw [seqs_append, List.length_append, List.flatMap_append]
              exact HO3.out
  · have HSt := hid (lzsteps_bad bs A W D F far w h he)
    have hl : lazyL bs A W D far = [] := by unfold lazyL; rw [if_neg he]
    rw [hl, (lazyE_bad he).1]
    clear h he hlen hbn hl
    go_enter Try.func13, Try.ntmps13
    go_wp2_with fail
    refine HSt.out.mono ?_
    rintro e w1 ⟨rfl, rfl⟩
    go_wp2_with fail
    refine wp_loop_rounds 1 ?_
    rw [rounds_succ]
    go_wp2_with fail
    go_ret2
    exact ⟨_, rfl, World.ownsRow_nil _ _ _ _, Below.refl _ _⟩
end Go.Proofs.Ytclheffeiaaodaa
