/-
  The law ChainsMake: New and the accessors; arguments and results share no memory with the finder. No condition.
-/
import Derived.Test.YtnmicfheekpnfaaCk
namespace Go.Port
open Go.RowKit
/-- A row of n bytes in a block of its own, from base on and below top. -/
def Byt (w : World) (v : Value) (n base top : Nat) (t : TypeId) : Prop :=
  n = 0 ∨ ∃ g c cs, v = .slice (some ⟨g, 0, none⟩) n c ∧ base ≤ g ∧ g < top ∧ n ≤ c ∧ Blk w g cs t ∧ ∀ j, j < n → ∃ y : Int, cs[j]? = some (.int .u8 y)
theorem Byt.set {w : World} {v : Value} {n base top : Nat} {t : TypeId} (h : Byt w v n base top t) (b k : Nat) (y : Int) : Byt (w.setCell ⟨b, k, none⟩ (.int .u8 y)) v n base top t := by
  rcases h with h | ⟨g, c, cs, h1, h2, h3, h4, h5, h6⟩
  · exact .inl h
  · by_cases hb : b = g
    · subst hb
      refine .inr ⟨b, c, _, h1, h2, h3, h4, h5.set k _, fun j hj => ?_⟩
      by_cases hk : k = j
      · subst hk
        obtain ⟨z, hz⟩ := h6 k hj
        exact ⟨y, by rw [List.getElem?_set_self (List.getElem?_eq_some_iff.1 hz).1]⟩
      · rw [List.getElem?_set_ne hk]
        exact h6 j hj
    · exact .inr ⟨g, c, cs, h1, h2, h3, h4, h5.other (a := ⟨b, k, none⟩) _ hb, h6⟩
theorem Byt.below {w w' : World} {v : Value} {n base top : Nat} {t : TypeId} (h : Byt w v n base top t) (hb : Below top w w') : Byt w' v n base top t := by
  rcases h with h | ⟨g, c, cs, h1, h2, h3, h4, h5, h6⟩
  · exact .inl h
  · exact .inr ⟨g, c, cs, h1, h2, h3, h4, h5.below hb h3, h6⟩
theorem Byt.top {w : World} {v : Value} {n base top top' : Nat} {t : TypeId} (h : Byt w v n base top t) (hb : top ≤ top') : Byt w v n base top' t := by
  rcases h with h | ⟨g, c, cs, h1, h2, h3, h4⟩
  · exact .inl h
  · exact .inr ⟨g, c, cs, h1, h2, Nat.lt_of_lt_of_le h3 hb, h4⟩
theorem Byt.of_owns {w : World} {v : Value} {base : Nat} {t : TypeId} {bs : List UInt8} (h : w.ownsRow base t 1 v bs.length (bs.map bv)) : Byt w v bs.length base w.heap.size t := by
  by_cases hn : bs.length = 0
  · exact .inl hn
  · obtain ⟨g, c, cs, h1, h2, h3, _, h5, h6⟩ := own_blk h (by omega)
    refine .inr ⟨g, c, cs, h1, h2, h5.lt, h3, h5, fun j hj => ?_⟩
    rw [Nat.mul_one] at h6
    have : (cs.take bs.length)[j]? = some (bv bs[j]) := by rw [h6, List.getElem?_map, List.getElem?_eq_getElem hj]; rfl
    rw [List.getElem?_take, if_pos hj] at this
    exact ⟨_, this⟩
end Go.Port
namespace Go.Proofs.Ytnmicfheekpnfaa
open Go.RowKit Go.Port

set_option maxRecDepth 100000 in
set_option maxHeartbeats 8000000 in
theorem ChainsMake_walk (w : World) (v1 : Value) (A : List UInt8) (h1 : Rs w 1 v1 A.length (A.map bv)) (v2 : Value) (D : List UInt8) (h2 : Rs w 1 v2 D.length (D.map bv)) (W dep : Int) :
    Calls Try.prog 8 #[v1, v2, .int .i64 W, .int .i64 dep] w (RetV w (.bool true)) := by
  have HW := hid works_any
  obtain ⟨_, a1, k1, rfl, hk1, _, hn1, hcell1⟩ := h1
  obtain ⟨_, a2, k2, rfl, hk2, _, hn2, hcell2⟩ := h2
  by_cases hlA : 200 < (A.length : Int)
  · go_enter Try.func8, Try.ntmps8
    go_wp2_with (go_at_call 10; refine (HW.out _).mono ?_; rintro e w' ⟨rfl, hb⟩)
    go_ret
    exact ⟨rfl, hb⟩
  by_cases hlD : 200 < (D.length : Int)
  · go_enter Try.func8, Try.ntmps8
    go_wp2_with (go_at_call 10; refine (HW.out _).mono ?_; rintro e w' ⟨rfl, hb⟩)
    go_ret
    exact ⟨rfl, hb⟩
  have HC1 := hid (show CellsAt w a1 (A.map bv) from hcell1)
  have HC2 := hid (show CellsAt w a2 (D.map bv) from hcell2)
  have HHA := hid (And.intro hk1 hn1)
  have HHD := hid (And.intro hk2 hn2)
  have HLn := hid (show A.length ≤ 200 ∧ D.length ≤ 200 from by omega)
  clear hk1 hk2 hn1 hn2 hcell1 hcell2
  go_enter Try.func8, Try.ntmps8
  go_wp2_with (at_builtin; refine Hid.out ?_)
  clear hlA hlD
  refine hid ?_
  have HE0 := hid (own_emptyK (w := w) (e := 5) 1 (Nat.le_refl _))
  have HBq := hid ((Below.refl w.heap.size w).alloc (Nat.le_refl _) (.cells #[] 5))
  have hs0 : w.heap.size ≤ (w.alloc (.cells #[] 5)).heap.size := by simp
  generalize w.alloc (.cells #[] 5) = wq at *
  refine wpList_appendsK rfl _ _ 22 rfl 5 _ 1 1 Try.underlying22 Try.info_byte rfl (by decide) (by decide) wq w.heap.size _ 0 A.length k1 a1 [] (A.map bv) (by simp) ?hu1 rfl rfl HHA.out.1 HHA.out.2 (HC1.out.low HBq.out) (by exact HE0.out) ?hn1 hs0 ?hk1
  case hu1 =>
    intro u hu
    obtain ⟨x, _, rfl⟩ := List.mem_map.1 hu
    rfl
  case hn1 => have := HLn.out; omega
  case hk1 =>
    intro v1 w1 hown hg
    rw [List.nil_append, Nat.zero_add] at hown
    have hbg := HBq.out.trans (below_grown HE0.out hg hs0)
    clear hg HE0 HBq hs0
    obtain ⟨b1, d1, rfl⟩ := own_slice hown
    have HY1 := hid (Byt.of_owns hown)
    have HK1 := hid ((Sl.of_owns hown).cells' rfl)
    have HKc1 := hid ((Sl.of_owns hown).cap rfl)
    have HB1 := hid hbg
    clear hown hbg
    go_wp2_with (at_builtin; refine Hid.out ?_)
    refine hid ?_
    have HE0 := hid (own_emptyK (w := w1) (e := 5) 1 (Nat.le_refl _))
    have HBq := hid ((Below.refl w1.heap.size w1).alloc (Nat.le_refl _) (.cells #[] 5))
    have hs0 : w1.heap.size ≤ (w1.alloc (.cells #[] 5)).heap.size := by simp
    generalize w1.alloc (.cells #[] 5) = wq at *
    refine wpList_appendsK rfl _ _ 22 rfl 5 _ 1 1 Try.underlying22 Try.info_byte rfl (by decide) (by decide) wq w1.heap.size _ 0 D.length k2 a2 [] (D.map bv) (by simp) ?hu2 rfl rfl HHD.out.1 HHD.out.2 ((HC2.out.low HB1.out).low HBq.out) (by exact HE0.out) ?hn2 hs0 ?hk2
    case hu2 =>
      intro u hu
      obtain ⟨x, _, rfl⟩ := List.mem_map.1 hu
      rfl
    case hn2 => have := HLn.out; omega
    case hk2 =>
      intro v2 w2 hown hg
      rw [List.nil_append, Nat.zero_add] at hown
      have hbg := HBq.out.trans (below_grown HE0.out hg hs0)
      clear hg HE0 HBq hs0
      obtain ⟨b2, d2, rfl⟩ := own_slice hown
      have HY2 := hid (Byt.of_owns hown)
      have HK2 := hid ((Sl.of_owns hown).cells' rfl)
      have HKc2 := hid ((Sl.of_owns hown).cap rfl)
      have HY1 := hid ((HY1.out.below hbg).top hbg.size)
      have HK1 := hid (HK1.out.low hbg)
      have hwb : w.heap.size ≤ w1.heap.size := HB1.out.size
      have HY2 := hid (show Byt w2 (.slice b2 D.length d2) D.length w.heap.size w2.heap.size 5 from by
        rcases HY2.out with h | ⟨g, c, cs, e1, e2, e3⟩
        · exact .inl h
        · exact .inr ⟨g, c, cs, e1, Nat.le_trans hwb e2, e3⟩)
      have HB2 := hid (HB1.out.trans (hbg.mono hwb))
      clear hown hbg hwb HB1
      have hLn := HLn.out
      cases hk : finderOk D.length W dep with
      | false =>
        have hFb := fun a1 a2 n1 c1 c2 Wd => cnew_bad a1 a2 n1 D.length c1 c2 W dep Wd hk
        have HRb := hid (fun Wd => rnew_bad a1 a2 A.length D.length k1 k2 W dep Wd hk)
        have HFb := hid hFb
        clear hk hFb hLn HK1 HK2 HKc1 HKc2
        unfold fdv at HRb
        go_wp2_with fail
        refine (HFb.out _ _ _ _ _ _).mono ?_
        rintro e w' ⟨rfl, rfl⟩
        go_wp2_with fail
        refine (HRb.out _).mono ?_
        rintro e w3 ⟨rfl, hb⟩
        have hb := hb.alloc hb.size (.cells #[.slice none 0 0, .int .i64 0, .int .i64 0, .int .i64 0] 26)
        have HY1 := hid (HY1.out.below hb)
        have HY2 := hid (HY2.out.below hb)
        have HB3 := hid (HB2.out.trans (hb.mono HB2.out.size))
        clear hb HB2 HFb HRb
        go_wp2_with fail
        go_loopw [15] (fun i wr => ∃ j : Nat, j ≤ A.length ∧ i = .int .i64 (j : Int) ∧ Byt wr (.slice b1 A.length d1) A.length w.heap.size w2.heap.size 5 ∧ Byt wr (.slice b2 D.length d2) D.length w.heap.size w2.heap.size 5 ∧ True ∧ Below w.heap.size w wr) (fun i _ => A.length - (intOf i).toNat)
        case atStart => exact ⟨0, Nat.zero_le _, rfl, HY1.out, HY2.out, trivial, HB3.out⟩
        case round =>
          obtain ⟨j, hj, rfl, r1, r2, r3, r4⟩ := hrel
          by_cases hlt : j < A.length
          · have hLn := HLn.out
            have hy := r1
            rcases hy with hy | ⟨g, c, cs, e1, e2, e3, e4, e5, e6⟩
            · omega
            cases e1
            obtain ⟨y, hy⟩ := e6 j hlt
            have cc := e5.cell hy
            have fz := e5.frozen j
            have hw4 : IntKind.i64.wrap ((j : Int) + 1) = (j : Int) + 1 := by rw [IntKind.wrap_i64]; omega
            have hjI : (j : Int) < (A.length : Int) := by omega
            have HR := hid (fun z : Int => (show Byt (wr.setCell ⟨g, j, none⟩ (.int .u8 z)) (.slice (some ⟨g, 0, none⟩) A.length d1) A.length w.heap.size w2.heap.size 5 ∧ Byt (wr.setCell ⟨g, j, none⟩ (.int .u8 z)) (.slice b2 D.length d2) D.length w.heap.size w2.heap.size 5 ∧ True ∧ Below w.heap.size w (wr.setCell ⟨g, j, none⟩ (.int .u8 z)) from ⟨r1.set g j z, r2.set g j z, trivial, r4.setCell (p := ⟨g, j, none⟩) e2 _⟩))
            have HJ := hid hlt
            clear hLn r1 r2 r3 r4 e2 e3 e4 e5 e6 hy hj hlt
            go_wp2_with fail
            go_roundw
            case rel => exact ⟨j + 1, HJ.out, by go_num, HR.out _⟩
            case measure => have := HJ.out; simp [intOf]; omega
          · obtain rfl : j = A.length := by omega
            clear hlt hj r3
            go_wp2_with fail
            go_loopw [16] (fun i wr => ∃ j : Nat, j ≤ D.length ∧ i = .int .i64 (j : Int) ∧ Byt wr (.slice b1 A.length d1) A.length w.heap.size w2.heap.size 5 ∧ Byt wr (.slice b2 D.length d2) D.length w.heap.size w2.heap.size 5 ∧ True ∧ Below w.heap.size w wr) (fun i _ => D.length - (intOf i).toNat)
            case atStart => exact ⟨0, Nat.zero_le _, rfl, r1, r2, trivial, r4⟩
            case round =>
              obtain ⟨j, hj, rfl, r1, r2, r3, r4⟩ := hrel
              by_cases hlt : j < D.length
              · have hLn := HLn.out
                have hy := r2
                rcases hy with hy | ⟨g, c, cs, e1, e2, e3, e4, e5, e6⟩
                · omega
                cases e1
                obtain ⟨y, hy⟩ := e6 j hlt
                have cc := e5.cell hy
                have fz := e5.frozen j
                have hw4 : IntKind.i64.wrap ((j : Int) + 1) = (j : Int) + 1 := by rw [IntKind.wrap_i64]; omega
                have hjI : (j : Int) < (D.length : Int) := by omega
                have HR := hid (fun z : Int => (show Byt (wr.setCell ⟨g, j, none⟩ (.int .u8 z)) (.slice b1 A.length d1) A.length w.heap.size w2.heap.size 5 ∧ Byt (wr.setCell ⟨g, j, none⟩ (.int .u8 z)) (.slice (some ⟨g, 0, none⟩) D.length d2) D.length w.heap.size w2.heap.size 5 ∧ True ∧ Below w.heap.size w (wr.setCell ⟨g, j, none⟩ (.int .u8 z)) from ⟨r1.set g j z, r2.set g j z, trivial, r4.setCell (p := ⟨g, j, none⟩) e2 _⟩))
                have HJ := hid hlt
                clear hLn r1 r2 r3 r4 e2 e3 e4 e5 e6 hy hj hlt
                go_wp2_with fail
                go_roundw
                case rel => exact ⟨j + 1, HJ.out, by go_num, HR.out _⟩
                case measure => have := HJ.out; simp [intOf]; omega
              · obtain rfl : j = D.length := by omega
                clear hlt hj r3 r1 r2
                go_wp2_with (first | (go_at_call 20; refine (num_any _ _).mono ?_; rintro e w' ⟨rfl, rfl⟩))
                refine (HW.out _).mono ?_
                rintro e w5 ⟨rfl, hb⟩
                go_wp2
                go_ret
                exact ⟨rfl, r4.trans (hb.mono r4.size)⟩
      | true =>
        have hkb := finderOk_bounds hk
        have hk1' := HKc1.out
        have hk2' := HKc2.out
        have hka := HHA.out
        have hkd := HHD.out
        have HNw := hid (cnew_ok b1 b2 d1 d2 A D W dep w2 (by omega) (by omega) hk1'.1 hk2'.1 hk1'.2 hk2'.2 HK1.out HK2.out hkb.1.1 hkb.1.2 hkb.2.1 hkb.2.2)
        have HRw := hid (fun Wd (hb : Below w.heap.size w Wd) => rnew_ok a1 a2 k1 k2 A D W dep Wd (by omega) (by omega) hka.1 hkd.1 hka.2 hkd.2 (HC1.out.low hb) (HC2.out.low hb) hkb.1.1 hkb.1.2 hkb.2.1 hkb.2.2)
        unfold fdv at HRw
        have hlen : (A ++ D).length = A.length + D.length := List.length_append
        have hdr : (A ++ D).drop A.length = D := List.drop_left
        have HDa := hid (fun F Wd h => cdata_any (A ++ D) A.length W dep F Wd h)
        rw [hdr, show (A ++ D).length - A.length = D.length from by omega] at HDa
        have HLe := hid (fun F Wd h => clen_any (A ++ D) A.length W dep F Wd h)
        rw [show ((A ++ D).length : Int) - (A.length : Int) = (D.length : Int) from by omega] at HLe
        generalize A ++ D = B at *
        clear hk hkb hk1' hk2' hka hkd hLn hlen hdr HK1 HK2 HKc1 HKc2
        go_wp2_with fail
        refine HNw.out.mono ?_
        rintro e w3 ⟨F, rfl, hF, hb⟩
        have HF3 := hid hF
        have HY1 := hid (HY1.out.below hb)
        have HY2 := hid (HY2.out.below hb)
        have HB3 := hid (HB2.out.trans (hb.mono HB2.out.size))
        have hs3 := hb.size
        clear hF hb HB2 HNw
        go_wp2_with fail
        refine (HRw.out _ HB3.out).mono ?_
        rintro e w4 ⟨ar, cr, rfl, hac, hC, hb⟩
        have hb := hb.alloc hb.size (.cells #[.slice ar B.length cr, .int .i64 (A.length : Int), .int .i64 W, .int .i64 dep] 26)
        have HY1 := hid (HY1.out.below (hb.mono hs3))
        have HY2 := hid (HY2.out.below (hb.mono hs3))
        have HF4 := hid (HF3.out.low hb)
        have HB4 := hid (HB3.out.trans (hb.mono HB3.out.size))
        clear hb HB3 HRw hac hC HF3
        go_wp2_with fail
        go_loopw [15] (fun i wr => ∃ j : Nat, j ≤ A.length ∧ i = .int .i64 (j : Int) ∧ Byt wr (.slice b1 A.length d1) A.length w.heap.size w2.heap.size 5 ∧ Byt wr (.slice b2 D.length d2) D.length w.heap.size w2.heap.size 5 ∧ FdS w2.heap.size 62 100 B A.length W dep F wr ∧ Below w.heap.size w wr) (fun i _ => A.length - (intOf i).toNat)
        case atStart => exact ⟨0, Nat.zero_le _, rfl, HY1.out, HY2.out, HF4.out, HB4.out⟩
        case round =>
          obtain ⟨j, hj, rfl, r1, r2, r3, r4⟩ := hrel
          by_cases hlt : j < A.length
          · have hLn := HLn.out
            have hy := r1
            rcases hy with hy | ⟨g, c, cs, e1, e2, e3, e4, e5, e6⟩
            · omega
            cases e1
            obtain ⟨y, hy⟩ := e6 j hlt
            have cc := e5.cell hy
            have fz := e5.frozen j
            have hw4 : IntKind.i64.wrap ((j : Int) + 1) = (j : Int) + 1 := by rw [IntKind.wrap_i64]; omega
            have hjI : (j : Int) < (A.length : Int) := by omega
            have HR := hid (fun z : Int => (show Byt (wr.setCell ⟨g, j, none⟩ (.int .u8 z)) (.slice (some ⟨g, 0, none⟩) A.length d1) A.length w.heap.size w2.heap.size 5 ∧ Byt (wr.setCell ⟨g, j, none⟩ (.int .u8 z)) (.slice b2 D.length d2) D.length w.heap.size w2.heap.size 5 ∧ FdS w2.heap.size 62 100 B A.length W dep F (wr.setCell ⟨g, j, none⟩ (.int .u8 z)) ∧ Below w.heap.size w (wr.setCell ⟨g, j, none⟩ (.int .u8 z)) from ⟨r1.set g j z, r2.set g j z, r3.set (a := ⟨g, j, none⟩) e3 _, r4.setCell (p := ⟨g, j, none⟩) e2 _⟩))
            have HJ := hid hlt
            clear hLn r1 r2 r3 r4 e2 e3 e4 e5 e6 hy hj hlt
            go_wp2_with fail
            go_roundw
            case rel => exact ⟨j + 1, HJ.out, by go_num, HR.out _⟩
            case measure => have := HJ.out; simp [intOf]; omega
          · obtain rfl : j = A.length := by omega
            clear hlt hj
            go_wp2_with fail
            go_loopw [16] (fun i wr => ∃ j : Nat, j ≤ D.length ∧ i = .int .i64 (j : Int) ∧ Byt wr (.slice b1 A.length d1) A.length w.heap.size w2.heap.size 5 ∧ Byt wr (.slice b2 D.length d2) D.length w.heap.size w2.heap.size 5 ∧ FdS w2.heap.size 62 100 B A.length W dep F wr ∧ Below w.heap.size w wr) (fun i _ => D.length - (intOf i).toNat)
            case atStart => exact ⟨0, Nat.zero_le _, rfl, r1, r2, r3, r4⟩
            case round =>
              obtain ⟨j, hj, rfl, r1, r2, r3, r4⟩ := hrel
              by_cases hlt : j < D.length
              · have hLn := HLn.out
                have hy := r2
                rcases hy with hy | ⟨g, c, cs, e1, e2, e3, e4, e5, e6⟩
                · omega
                cases e1
                obtain ⟨y, hy⟩ := e6 j hlt
                have cc := e5.cell hy
                have fz := e5.frozen j
                have hw4 : IntKind.i64.wrap ((j : Int) + 1) = (j : Int) + 1 := by rw [IntKind.wrap_i64]; omega
                have hjI : (j : Int) < (D.length : Int) := by omega
                have HR := hid (fun z : Int => (show Byt (wr.setCell ⟨g, j, none⟩ (.int .u8 z)) (.slice b1 A.length d1) A.length w.heap.size w2.heap.size 5 ∧ Byt (wr.setCell ⟨g, j, none⟩ (.int .u8 z)) (.slice (some ⟨g, 0, none⟩) D.length d2) D.length w.heap.size w2.heap.size 5 ∧ FdS w2.heap.size 62 100 B A.length W dep F (wr.setCell ⟨g, j, none⟩ (.int .u8 z)) ∧ Below w.heap.size w (wr.setCell ⟨g, j, none⟩ (.int .u8 z)) from ⟨r1.set g j z, r2.set g j z, r3.set (a := ⟨g, j, none⟩) e3 _, r4.setCell (p := ⟨g, j, none⟩) e2 _⟩))
                have HJ := hid hlt
                clear hLn r1 r2 r3 r4 e2 e3 e4 e5 e6 hy hj hlt
                go_wp2_with fail
                go_roundw
                case rel => exact ⟨j + 1, HJ.out, by go_num, HR.out _⟩
                case measure => have := HJ.out; simp [intOf]; omega
              · obtain rfl : j = D.length := by omega
                clear hlt hj r1 r2
                obtain ⟨wr0, hwr0⟩ : ∃ x, x = wr := ⟨_, rfl⟩
                rw [← hwr0] at r3 r4 ⊢
                clear hwr0
                have HF6 := hid r3.at
                have HB6 := hid r4
                clear r3 r4
                go_wp2_with (first | (go_at_call 20; refine (num_any _ _).mono ?_; rintro e w' ⟨rfl, rfl⟩))
                refine (HDa.out F _ HF6.out).mono ?_
                rintro e w7 ⟨v, rfl, hown, hb⟩
                obtain ⟨b7, d7, rfl⟩ := own_slice hown
                have HY7 := hid (Byt.of_owns hown)
                have hst1 := run_str (P := Try.prog) w7 22 9 5 Try.underlying22 Try.underlying5 Try.underlying9 b7 D.length d7 D rfl ((Sl.of_owns hown).cells' rfl)
                have hst2 := run_str (P := Try.prog) w7 22 9 5 Try.underlying22 Try.underlying5 Try.underlying9 a2 D.length k2 D rfl (HC2.out.low (HB6.out.trans (hb.mono HB6.out.size)))
                have HB7 := hid hb
                have HF7 := hid (HF6.out.low hb)
                clear hown hb
                go_wp2_with fail
                clear hst1 hst2
                refine (HLe.out F _ HF7.out).mono ?_
                rintro e w' ⟨rfl, m, rfl⟩
                have HF8 := hid (HF7.out.drew m)
                have HB8 := hid (below_drewN HB7.out m)
                have HY8 := hid ((HY7.out.below (below_drewN (Below.refl w7.heap.size w7) m)))
                clear HF7 HB7 HY7
                go_wp2_with fail
                generalize w7.drewN m = w8 at *
                refine (chist_any B A.length W dep F _ HF8.out).mono ?_
                rintro e w' ⟨rfl, rfl⟩
                go_wp2_with fail
                refine (cwindow_any B A.length W dep F _ HF8.out).mono ?_
                rintro e w' ⟨rfl, rfl⟩
                go_wp2_with fail
                refine (cdepth_any B A.length W dep F _ HF8.out).mono ?_
                rintro e w' ⟨rfl, rfl⟩
                go_wp2_with fail
                go_loopw [18] (fun i wr => ∃ j : Nat, j ≤ D.length ∧ i = .int .i64 (j : Int) ∧ Byt wr (.slice b7 D.length d7) D.length wr0.heap.size w7.heap.size 5 ∧ Below wr0.heap.size wr0 wr) (fun i _ => D.length - (intOf i).toNat)
                case atStart => exact ⟨0, Nat.zero_le _, rfl, HY8.out, HB8.out⟩
                case round =>
                  obtain ⟨j, hj, rfl, r1, r4⟩ := hrel
                  by_cases hlt : j < D.length
                  · have hLn := HLn.out
                    have hy := r1
                    rcases hy with hy | ⟨g, c, cs, e1, e2, e3, e4, e5, e6⟩
                    · omega
                    cases e1
                    obtain ⟨y, hy⟩ := e6 j hlt
                    have cc := e5.cell hy
                    have fz := e5.frozen j
                    have hw4 : IntKind.i64.wrap ((j : Int) + 1) = (j : Int) + 1 := by rw [IntKind.wrap_i64]; omega
                    have hjI : (j : Int) < (D.length : Int) := by omega
                    have HR := hid (fun z : Int => (show Byt (wr.setCell ⟨g, j, none⟩ (.int .u8 z)) (.slice (some ⟨g, 0, none⟩) D.length d7) D.length wr0.heap.size w7.heap.size 5 ∧ Below wr0.heap.size wr0 (wr.setCell ⟨g, j, none⟩ (.int .u8 z)) from ⟨r1.set g j z, r4.setCell (p := ⟨g, j, none⟩) e2 _⟩))
                    have HJ := hid hlt
                    clear hLn r1 r4 e2 e3 e4 e5 e6 hy hj hlt
                    go_wp2_with fail
                    go_roundw
                    case rel => exact ⟨j + 1, HJ.out, by go_num, HR.out _⟩
                    case measure => have := HJ.out; simp [intOf]; omega
                  · obtain rfl : j = D.length := by omega
                    clear hlt hj r1
                    have HF9 := hid (HF6.out.low r4)
                    have HB9 := hid (HB6.out.trans (r4.mono HB6.out.size))
                    clear r4
                    go_upto_region 25 with fail
                    obtain ⟨w9, hw9⟩ : ∃ x, x = wr := ⟨_, rfl⟩
                    rw [← hw9] at HF9 HB9 ⊢
                    clear hw9
                    refine wp_region_noPanic ?_
                    refine wp_region_held_drew (S := fun W' => Below w9.heap.size w9 W') (by kernel_rfl) (Below.refl w9.heap.size w9).drew (fun hHeld => ?_)
                    refine wpAnyH_take (i := 0) (v := .pointer (some ⟨F, 0, none⟩)) (by simp only [List.getElem?_toArray, List.getElem?_cons_zero]; rfl) (by kernel_rfl) (by kernel_rfl) (by kernel_rfl) (fun _ _ _ h => h) (Or.inl ⟨by rfl, fun W hSw => ?_⟩) (by assumption) ?_
                    · clear hSw
                      go_simp
                    simp only [Act.put, List.setIfInBounds_toArray, List.set_cons_zero, List.set_cons_succ]
                    refine wpAnyH_take (i := 3) (v := .slice a2 D.length k2) (by simp only [List.getElem?_toArray, List.getElem?_cons_zero, List.getElem?_cons_succ]; rfl) (by kernel_rfl) (by kernel_rfl) (by kernel_rfl) (fun _ _ _ h => h) (Or.inl ⟨by rfl, fun W hSw => ?_⟩) (by assumption) ?_
                    · clear hSw
                      go_simp
                    simp only [Act.put, List.setIfInBounds_toArray, List.set_cons_zero, List.set_cons_succ]
                    refine wpAnyH_take (i := 4) (v := .string ⟨D.toArray⟩) (by simp only [List.getElem?_toArray, List.getElem?_cons_zero, List.getElem?_cons_succ]; rfl) (by kernel_rfl) (by kernel_rfl) (by kernel_rfl) (fun _ _ _ h => h) (Or.inl ⟨by rfl, fun W hSw => ?_⟩) (by assumption) ?_
                    · have hst2 := run_str (P := Try.prog) W 22 9 5 Try.underlying22 Try.underlying5 Try.underlying9 a2 D.length k2 D rfl (HC2.out.low (HB9.out.trans (hSw.mono HB9.out.size)))
                      go_simp
                    simp only [Act.put, List.setIfInBounds_toArray, List.set_cons_zero, List.set_cons_succ]
                    refine wpAnyH_ready (rs := [1]) (by kernel_rfl) (by simp) ?_
                    refine AllReadyH.cons (by simp only [List.getElem?_toArray, List.getElem?_cons_zero, List.getElem?_cons_succ]; rfl) (fun K hK => ?_) AllReadyH.nil
                    rw [if_pos (by rfl)]
                    go_simp
                    go_at_call 22
                    refine (HDa.out F _ (HF9.out.low (Below.refl w9.heap.size w9).drew)).mono ?_
                    rintro e w10 ⟨v, rfl, hown, hb⟩
                    obtain ⟨b8, d8, rfl⟩ := own_slice hown
                    have hst3 := run_str (P := Try.prog) w10 22 9 5 Try.underlying22 Try.underlying5 Try.underlying9 b8 D.length d8 D rfl ((Sl.of_owns hown).cells' rfl)
                    have hb10 := (Below.refl w9.heap.size w9).drew.trans hb
                    dsimp only
                    refine hK.out _ _ hb10 (fun _ => ?_)
                    clear hK K hown hb
                    refine wpAnyH_ready (rs := [2]) (by kernel_rfl) (by simp) ?_
                    refine AllReadyH.cons (by simp only [List.getElem?_toArray, List.getElem?_cons_zero, List.getElem?_cons_succ]; rfl) (fun K hK => ?_) AllReadyH.nil
                    rw [if_pos (by rfl)]
                    go_simp
                    refine hK.out _ _ hb10 (fun _ => ?_)
                    clear hK K
                    refine wpAnyH_ready (rs := [5]) (by kernel_rfl) (by simp) ?_
                    refine AllReadyH.cons (by simp only [List.getElem?_toArray, List.getElem?_cons_zero, List.getElem?_cons_succ]; rfl) (fun K hK => ?_) AllReadyH.nil
                    rw [if_pos (by rfl)]
                    go_simp
                    refine hK.out _ _ hb10 (fun _ => ?_)
                    clear hK K
                    refine wpAnyH_ready (rs := [6]) (by kernel_rfl) (by simp) ?_
                    refine AllReadyH.cons (by simp only [List.getElem?_toArray, List.getElem?_cons_zero, List.getElem?_cons_succ]; rfl) (fun K hK => ?_) AllReadyH.nil
                    rw [if_pos (by rfl)]
                    go_simp
                    refine hK.out _ _ hb10 (fun _ => ?_)
                    clear hK K
                    refine wpAnyH_ready (rs := [7]) (by kernel_rfl) (by simp) ?_
                    refine AllReadyH.cons (by simp only [List.getElem?_toArray, List.getElem?_cons_zero, List.getElem?_cons_succ]; rfl) (fun K hK => ?_) AllReadyH.nil
                    rw [if_pos (by rfl)]
                    go_simp
                    go_at_call 10
                    refine (HW.out _).mono ?_
                    rintro e w11 ⟨rfl, hb⟩
                    have hb11 := hb10.trans (hb.mono hb10.size)
                    dsimp only
                    refine hK.out _ _ hb11 (fun _ => ?_)
                    clear hK K hb
                    refine wpAnyH_ready (rs := [8]) (by kernel_rfl) (by simp) ?_
                    refine AllReadyH.cons (by simp only [List.getElem?_toArray, List.getElem?_cons_zero, List.getElem?_cons_succ]; rfl) (fun K hK => ?_) AllReadyH.nil
                    rw [if_pos (by rfl)]
                    go_simp
                    refine hK.out _ _ hb11 (fun _ => ?_)
                    clear hK K
                    refine wpAnyH_ready (rs := [9]) (by kernel_rfl) (by simp) ?_
                    refine AllReadyH.cons (by simp only [List.getElem?_toArray, List.getElem?_cons_zero, List.getElem?_cons_succ]; rfl) (fun K hK => ?_) AllReadyH.nil
                    rw [if_pos (by rfl)]
                    go_simp
                    refine hK.out _ _ hb11 (fun _ => ?_)
                    clear hK K
                    refine wpAnyH_done (by kernel_rfl) ?_ _
                    refine NoPanic.normal ?_
                    go_wp2
                    go_ret
                    exact ⟨rfl, HB9.out.trans (hb11.mono HB9.out.size)⟩
end Go.Proofs.Ytnmicfheekpnfaa
namespace Go.Proofs.Ytnmicfheekpnfaa.LChainsMake
open Go.ChangeShapes Go.WideShapes Go.ChangeAt Go.RowKit Go.Port

set_option maxRecDepth 100000 in
theorem lifted (os : Os) (started : os.Started) (H : Type) (enc : TypeId × Value → H) :
    ReturnsInHanded {} Try.checked os 8 .any (Rows.chainsMakeSpec.pre6 enc Try.prog Try.f8 Rows.chainsMakeRow.domain false) (Rows.chainsMakeSpec.post enc Try.prog Try.f8 false true false false) := by
  refine returnsInHanded_of_change (C := Try.checked) Try.own started (by kernel_rfl) Try.func8
    (ChangeSpec.witness6 (enc := enc) (C := Try.checked) false ⟨#[], #[.slice none 0 0, .slice none 0 0, .int .i64 0, .int .i64 0], []⟩ 8 (by kernel_rfl) (by kernel_rfl) (by kernel_rfl) (by kernel_rfl)) ?_
  intro W base args ds gs before hval0 hW hcnd _
  have hval : ∀ (j : Nat) t v, Try.f8.params[j]? = some t → args[j]? = some v → Value.okWide Try.prog W .any base t v := hval0
  have hW' := hW
  obtain ⟨p, q, hA0, hV, rfl, hfz, hnd⟩ := hW
  have hA : DataW.TrodAll enc Try.prog W 0 (fun _ => true) true Try.f8.params.toList args.toList ds p := hA0
  rw [Try.params8] at hA hval
  obtain ⟨v0, vs0, d0, ds0, p0, q0, hargs, rfl, rfl, h0, r0⟩ := trodAll_cons hA
  obtain ⟨v1, vs1, d1, ds1, p1, q1, rfl, rfl, rfl, h1, r1⟩ := trodAll_cons r0
  obtain ⟨v2, vs2, d2, ds2, p2, q2, rfl, rfl, rfl, h2, r2⟩ := trodAll_cons r1
  obtain ⟨v3, vs3, d3, ds3, p3, q3, rfl, rfl, rfl, h3, r3⟩ := trodAll_cons r2
  obtain ⟨rfl, rfl, rfl⟩ := trodAll_nil r3
  obtain rfl : args = #[v0, v1, v2, v3] := by cases args; simp_all
  obtain ⟨rfl, rfl⟩ := trodVars_none hV
  obtain ⟨l0, hl0, wl0⟩ := open_rowV Try.underlying22 Try.underlying5 (by kernel_rfl) (hval 0 22 v0 rfl rfl) h0
  obtain ⟨bs0, hbs0, hn0⟩ := bytes_of wl0
  rw [hbs0, ← hn0] at hl0
  obtain ⟨l1, hl1, wl1⟩ := open_rowV Try.underlying22 Try.underlying5 (by kernel_rfl) (hval 1 22 v1 rfl rfl) h1
  obtain ⟨bs1, hbs1, hn1⟩ := bytes_of wl1
  rw [hbs1, ← hn1] at hl1
  obtain ⟨a2, rfl, rfl, rfl, w2⟩ := open_int Try.underlying3 (hval 2 3 v2 rfl rfl) h2
  obtain ⟨a3, rfl, rfl, rfl, w3⟩ := open_int Try.underlying3 (hval 3 3 v3 rfl rfl) h3
  clear hA0 hval0
  simp only [List.append_nil] at hW'
  refine (ChainsMake_walk W v0 bs0 hl0 v1 bs1 hl1 a2 a3).mono fun e W' ⟨he, hb⟩ => ?_
  subst he
  exact ⟨_, rfl, law_post Try.kids Try.full Try.underlying4 rfl rfl hW' (by rw [Try.params8]; decide) rfl rfl rfl hb⟩

theorem over : Rows.chainsMakeRow.holds Try.pinned (OpenSpec.ofChange Rows.chainsMakeSpec) :=
  OpenClaim.holds_of_wide 8 Try.f8 rfl rfl rfl rfl rfl rfl rfl ⟨rfl, rfl, rfl, rfl, rfl⟩ rfl rfl rfl rfl rfl (by kernel_rfl) Try.func8 (by kernel_rfl)
    (of_decide_eq_true (by kernel_rfl)) (by unfold Func.isWrapper; first | (rw [if_pos (by decide +kernel)]; kernel_rfl) | (rw [if_neg (by decide +kernel)]; exact ⟨rfl, rfl⟩))
    (fun os started H enc _ => lifted os started H enc)

/-- The statement. -/
theorem proved : Rows.ChainsMakeSaid :=
  over
end Go.Proofs.Ytnmicfheekpnfaa.LChainsMake
