/-
  The walks of layer 33 (best): the reference's Is, of the plan of a path.
-/
import Derived.Test.YtiagbejfghincaaGreatY37
import Derived.Test.YtiagbejfghincaaGreatY41
import Derived.Test.YtiagbejfghincaaGreatY40
import Derived.BigQuiet
import Derived.LoopIn
import Derived.Deep.LoopGhost
import Derived.WalkMore
namespace Go.Proofs.YtiagbejfghincaaGreat
open Go.RowKit Go.Port
attribute [local go_sem] Oper.semAt_some
set_option maxRecDepth 1000000 in
set_option maxHeartbeats 8000000 in
theorem ris_true (bs : List UInt8) (a : Option Addr) (c A : Nat) (Wd D : Int) (p : Nat) (al : Option Addr) (cl : Nat) (l : List Sq) (w : World) (hb : bs.length ≤ 1000000) (hbc : bs.length ≤ c) (hA : A ≤ bs.length) (hW : 1 ≤ Wd ∧ Wd ≤ 134217728) (hD : 1 ≤ D ∧ D ≤ 4096) (hc : CellsAt w a (bs.map bv))
    (hl : l.length ≤ 1000000) (hcl : CellsAt w al (l.flatMap sqc)) (hp : isPath (chF bs A Wd D) ((bs.drop A).length : Nat) (p : Int) l = true) :
    Calls Tryz.prog 20 #[fdv a bs.length c A Wd D, .int .i64 (p : Int), .slice al l.length cl] w (RetV w (.bool true)) := by
  have HSt := hid (fun (p : Int) W' (hb' : Below w.heap.size w W') => rsteps_any bs a c A Wd D p W' hb hbc hA hW hD (at_same hc hb'))
  have HSt2 := hid (show ∀ (p : Int) W' (hb' : Below w.heap.size w W'), Calls Tryz.prog 13 #[.agg #[.slice a bs.length c, .int .i64 (A : Int), .int .i64 Wd, .int .i64 D], .int .i64 p] W' fun e w' => ∃ v, e = .returned v ∧ w'.ownsRow W'.heap.size 44 3 v (chF bs A Wd D p).length ((chF bs A Wd D p).flatMap sqc) ∧ Below W'.heap.size W' w' from HSt.out)
  have hdl : (bs.drop A).length = bs.length - A := List.length_drop
  have hlo : ∀ i, (chF bs A Wd D i).length ≤ 63 := fun i => bSteps_length _
  have hchk : Choices (bs.drop A).length (chF bs A Wd D) := choices_ok hA hW.2
  have hwn : IntKind.i64.wrap ((bs.length : Int) - (A : Int)) = ((bs.drop A).length : Int) := by rw [IntKind.wrap_i64]; omega
  have hnb : (bs.drop A).length ≤ 1000000 := by omega
  have HLo := hid hlo
  have HCh := hid hchk
  have HCl := hid hcl
  unfold fdv
  clear HSt hlo hchk hcl hc hD hW hbc hdl
  generalize (chF bs A Wd D) = ch at *
  generalize (bs.drop A).length = n at *
  obtain ⟨m, hm⟩ : ∃ m, l.length = m := ⟨_, rfl⟩
  have HM := hid hm
  rw [hm] at hl ⊢
  clear hm
  have hXf := (Blk.newAt rfl : Blk (w.alloc (.cells #[.slice a bs.length c, .int .i64 (A : Int), .int .i64 Wd, .int .i64 D] 30)) w.heap.size [.slice a bs.length c, .int .i64 (A : Int), .int .i64 Wd, .int .i64 D] 30)
  have hB1 := below_new w (.cells #[.slice a bs.length c, .int .i64 (A : Int), .int .i64 Wd, .int .i64 D] 30)
  have HXf := hid hXf
  have HB1 := hid hB1
  have HP := hid hp
  clear hXf hB1 hp
  go_enter Tryz.func20, Tryz.ntmps20
  go_wp2
  generalize w.alloc (.cells #[.slice a bs.length c, .int .i64 (A : Int), .int .i64 Wd, .int .i64 D] 30) = w1 at *
  go_loopg [1, 7] m (fun gk q i wr => ∃ (k pp : Nat), gk = m - k ∧ k ≤ m ∧ q = .int .i64 (pp : Int) ∧ i = .int .i64 (k : Int) ∧ Hid (isPath ch (n : Int) (pp : Int) (l.drop k) = true) ∧ Hid (Below w1.heap.size w1 wr))
  case atStart => exact ⟨0, p, rfl, Nat.zero_le _, rfl, rfl, hid HP.out, hid (Below.refl _ _)⟩
  case round =>
    obtain ⟨k, pp, hgk, hk, rfl, rfl, HI, HB⟩ := hrel
    have HG := hid hgk
    clear hgk
    by_cases hkm : k < m
    · obtain ⟨⟨sl, sn, so⟩, hs⟩ : ∃ s, l[k]? = some s := ⟨l[k]'(by rw [HM.out]; exact hkm), by simp⟩
      have hd : l.drop k = ⟨sl, sn, so⟩ :: l.drop (k + 1) := by
        obtain ⟨h1, h2⟩ := List.getElem?_eq_some_iff.1 hs
        rw [List.drop_eq_getElem_cons h1, h2]
      have hI := HI.out
      rw [hd] at hI
      unfold isPath at hI
      dsimp only at hI
      split at hI
      · cases hI
      · rename_i hbd
        split at hI
        · rename_i hany
          obtain ⟨M, hM⟩ : ∃ M : Nat, sl = (M : Int) := ⟨sl.toNat, by omega⟩
          subst hM
          obtain ⟨y, hy, hyy⟩ := List.any_eq_true.1 hany
          simp only [Bool.and_eq_true, beq_iff_eq] at hyy
          obtain ⟨_, _, y1, y2, _, _⟩ := HCh.out.inn _ y hy
          obtain ⟨L, hL⟩ : ∃ L : Nat, sn = (L : Int) := ⟨sn.toNat, by omega⟩
          subst hL
          rw [hyy.1] at y1 y2
          have hq : (pp : Int) + (M : Int) = ((pp + M : Nat) : Int) := by omega
          rw [hq] at hany y2
          have hq2 : (pp : Int) + (M : Int) + (L : Int) = ((pp + M + L : Nat) : Int) := by omega
          rw [hq2] at hI
          have hLc := HCl.out.low (HB1.out.trans (HB.out.mono HB1.out.size))
          obtain ⟨bl, off, rfl, hb0, c0⟩ := hLc (k * 3 + 0) (.int .i64 (M : Int)) (by rw [sqc_get hs 0 (by omega)]; rfl)
          obtain ⟨_, _, e1, _, c1⟩ := hLc (k * 3 + 1) (.int .i64 (L : Int)) (by rw [sqc_get hs 1 (by omega)]; rfl)
          cases e1
          obtain ⟨_, _, e2, _, c2⟩ := hLc (k * 3 + 2) (.int .i64 so) (by rw [sqc_get hs 2 (by omega)]; rfl)
          cases e2
          rw [Nat.add_zero] at c0
          rw [← Nat.add_assoc] at c1 c2
          have hXf := HXf.out.below HB.out HXf.out.lt
          have f0 := hXf.cell (k := 0) rfl
          have f1 := hXf.cell (k := 1) rfl
          have f2 := hXf.cell (k := 2) rfl
          have f3 := hXf.cell (k := 3) rfl
          have hw1 : IntKind.i64.wrap ((pp : Int) + (M : Int)) = ((pp + M : Nat) : Int) := by rw [IntKind.wrap_i64]; omega
          have hM0 : ¬ (M : Int) < 0 := by omega
          have hMn : ¬ (n : Int) < ((pp + M : Nat) : Int) := by omega
          have hMd : decide ((M : Int) < 0) = false := by simp
          have hkI : (k : Int) < (m : Int) := by omega
          have hQm : pp + M + L ≤ n := by omega
          have HAny := hid hany
          have HI2 := hid hI
          have HCc := hid (And.intro hb0 (And.intro c0 (And.intro c1 c2)))
          obtain ⟨Q, hQ⟩ : ∃ Q, pp + M = Q := ⟨_, rfl⟩
          rw [hQ] at hw1 hMn HAny HI2 hQm
          clear hXf hd hs hI hany hbd hy hyy y1 y2 hq hq2 hLc
          go_wp2_with fail
          refine (HSt2.out _ _ (HB1.out.trans (HB.out.mono HB1.out.size))).mono ?_
          rintro e w8 ⟨v, rfl, hown, hb8⟩
          obtain ⟨ac, cc, rfl⟩ := own_slice hown
          have HL8 := hid (own_rows hown).1
          have HB8 := hid (HB.out.trans (hb8.mono HB.out.size))
          have HCr := hid (show bl < w8.heap.size ∧ w8.cell? ⟨bl, off + k * 3, none⟩ = some (.int .i64 (M : Int)) ∧ w8.cell? ⟨bl, off + k * 3 + 1, none⟩ = some (.int .i64 (L : Int)) ∧ w8.cell? ⟨bl, off + k * 3 + 2, none⟩ = some (.int .i64 so) from
            ⟨Nat.lt_of_lt_of_le HCc.out.1 hb8.size, (hb8.cell (p := ⟨bl, off + k * 3, none⟩) HCc.out.1).trans HCc.out.2.1, (hb8.cell (p := ⟨bl, off + k * 3 + 1, none⟩) HCc.out.1).trans HCc.out.2.2.1, (hb8.cell (p := ⟨bl, off + k * 3 + 2, none⟩) HCc.out.1).trans HCc.out.2.2.2⟩)
          have hll := HLo.out (Q : Int)
          clear c0 c1 c2 f0 f1 f2 f3 hown hb8 hb0 HCc
          generalize ch (Q : Int) = cs at *
          obtain ⟨u, hu⟩ : ∃ u, cs.length = u := ⟨_, rfl⟩
          have HU := hid hu
          rw [hu] at hll ⊢
          clear hu
          go_wp2
          go_loopg [9, 10] u (fun gm fo k2 w9 => ∃ j : Nat, gm = u - j ∧ j ≤ u ∧ fo = .bool ((cs.take j).any (fun y : Sq => y.len == (L : Int) && y.off == so)) ∧ k2 = .int .i64 (j : Int) ∧ Hid (Below w8.heap.size w8 w9))
          case atStart => exact ⟨0, rfl, Nat.zero_le _, rfl, rfl, hid (Below.refl _ _)⟩
          case round =>
            obtain ⟨j, hgm, hj, rfl, rfl, HB9⟩ := hrel
            have HGm := hid hgm
            clear hgm
            by_cases hju : j < u
            · obtain ⟨⟨yl, yn, yo⟩, hy⟩ : ∃ s, cs[j]? = some s := ⟨cs[j]'(by rw [HU.out]; exact hju), by simp⟩
              have htk : (cs.take (j + 1)).any (fun y : Sq => y.len == (L : Int) && y.off == so) = ((cs.take j).any (fun y : Sq => y.len == (L : Int) && y.off == so) || (yn == (L : Int) && yo == so)) := by
                rw [List.take_add_one, hy, List.any_append]
                simp
              have hLc := HL8.out.low HB9.out
              obtain ⟨bc, oc, rfl, hb1, d1⟩ := hLc (j * 3 + 1) (.int .i64 yn) (by rw [sqc_get hy 1 (by omega)]; rfl)
              obtain ⟨_, _, e2, _, d2⟩ := hLc (j * 3 + 2) (.int .i64 yo) (by rw [sqc_get hy 2 (by omega)]; rfl)
              cases e2
              rw [← Nat.add_assoc] at d1 d2
              have c1 := (HB9.out.cell (p := ⟨bl, off + k * 3 + 1, none⟩) HCr.out.1).trans HCr.out.2.2.1
              have c2 := (HB9.out.cell (p := ⟨bl, off + k * 3 + 2, none⟩) HCr.out.1).trans HCr.out.2.2.2
              have hjI : (j : Int) < (u : Int) := by omega
              have HTk := hid htk
              clear hLc hy htk
              generalize hfb : (cs.take j).any (fun y : Sq => y.len == (L : Int) && y.off == so) = fb at *
              have hfin : ∀ nq : Nat, Below w8.heap.size w8 (wr.drewN nq) := fun nq => below_drewN HB9.out nq
              cases fb
              · by_cases h1 : yn = (L : Int)
                · subst h1
                  by_cases h2 : yo = so
                  · subst h2
                    have cb : decide (yo = yo) = true := decide_eq_true rfl
                    have HTk := hid (HTk.out.trans (show (false || ((L : Int) == (L : Int) && yo == yo)) = true from by simp))
                    go_wp2_with fail
                    go_quiet (fail)
                    go_wp2
                    go_roundg (u - (j + 1))
                    case rel => exact ⟨j + 1, rfl, hju, by rw [HTk.out], by go_num, hid (hfin _)⟩
                    case measure => have := HGm.out; omega
                  · have cb : decide (yo = so) = false := decide_eq_false h2
                    have HTk := hid (HTk.out.trans (show (false || ((L : Int) == (L : Int) && yo == so)) = false from by simp [h2]))
                    go_wp2_with fail
                    go_quiet (fail)
                    go_wp2
                    go_roundg (u - (j + 1))
                    case rel => exact ⟨j + 1, rfl, hju, by rw [HTk.out]; simp [h2], by go_num, hid (hfin _)⟩
                    case measure => have := HGm.out; omega
                · have cb : decide (yn = (L : Int)) = false := decide_eq_false h1
                  have HTk := hid (HTk.out.trans (show (false || (yn == (L : Int) && yo == so)) = false from by simp [h1]))
                  go_wp2_with fail
                  go_quiet (fail)
                  go_wp2
                  go_roundg (u - (j + 1))
                  case rel => exact ⟨j + 1, rfl, hju, by rw [HTk.out], by go_num, hid (hfin _)⟩
                  case measure => have := HGm.out; omega
              · have HTk := hid (HTk.out.trans (show (true || (yn == (L : Int) && yo == so)) = true from by simp))
                go_wp2_with fail
                go_quiet (fail)
                go_wp2
                go_roundg (u - (j + 1))
                case rel => exact ⟨j + 1, rfl, hju, by rw [HTk.out], by go_num, hid (hfin _)⟩
                case measure => have := HGm.out; omega
            · obtain rfl : j = u := by omega
              rw [List.take_of_length_le (by rw [HU.out]; exact Nat.le_refl _), HAny.out]
              have c1 := (HB9.out.cell (p := ⟨bl, off + k * 3 + 1, none⟩) HCr.out.1).trans HCr.out.2.2.1
              have hw2 : IntKind.i64.wrap ((Q : Int) + (L : Int)) = (Q : Int) + (L : Int) := by rw [IntKind.wrap_i64]; omega
              have hkI2 : IntKind.i64.wrap ((k : Int) + 1) = (k : Int) + 1 := by rw [IntKind.wrap_i64]; omega
              go_wp2
              go_roundg (m - (k + 1))
              case rel => exact ⟨k + 1, Q + L, rfl, hkm, by go_num, by go_num, hid HI2.out, hid (HB8.out.trans (HB9.out.mono HB8.out.size))⟩
              case measure => have := HG.out; omega
        · cases hI
    · go_wp2
      go_ret
      exact ⟨rfl, HB1.out.trans (HB.out.mono HB1.out.size)⟩
end Go.Proofs.YtiagbejfghincaaGreat
