/-
  The walks of the split, eighteenth part: the reference's least cost.
-/
import Derived.Test.YtadnhjloeaddnaaSplitQ
import Derived.Deep.QuietTactic
import Derived.BigQuiet
import Derived.Deep.RegionHeld3
namespace Go.Port
open Go.RowKit

/-- The reference's table: its first kk entries are the least costs; entry kk holds y where x is y. -/
def LAt (bs : List UInt8) (g m n kk : Nat) (x : Option Int) (wr : World) (b : Nat) (t : TypeId) : Prop :=
  ∃ bl, Blk wr b bl t ∧ bl.length = n ∧ (∀ i, i < kk → bl[i]? = some (.int .i64 (way bs g m i).2)) ∧ ∀ y, x = some y → bl[kk]? = some (.int .i64 y)

section
variable {bs : List UInt8} {g m n kk b : Nat} {x : Option Int} {wr wr' : World} {t : TypeId}
theorem LAt.low (h : LAt bs g m n kk x wr b t) (hb : Below wr.heap.size wr wr') : LAt bs g m n kk x wr' b t := by
  obtain ⟨bl, h1, h2⟩ := h
  exact ⟨bl, h1.below hb h1.lt, h2⟩
theorem LAt.lt (h : LAt bs g m n kk x wr b t) : b < wr.heap.size := by
  obtain ⟨bl, h1, _⟩ := h
  exact h1.lt
theorem LAt.get (h : LAt bs g m n kk x wr b t) {i : Nat} (hi : i < kk) : wr.cell? ⟨b, i, none⟩ = some (.int .i64 (way bs g m i).2) := by
  obtain ⟨bl, h1, _, h3, _⟩ := h
  exact h1.cell (h3 i hi)
theorem LAt.cur {y : Int} (h : LAt bs g m n kk (some y) wr b t) : wr.cell? ⟨b, kk, none⟩ = some (.int .i64 y) := by
  obtain ⟨bl, h1, _, _, h4⟩ := h
  exact h1.cell (h4 y rfl)
theorem LAt.free (h : LAt bs g m n kk x wr b t) (hk : kk < n) : (∃ u, wr.cell? ⟨b, kk, none⟩ = some u) ∧ wr.frozen? ⟨b, kk, none⟩ = false := by
  obtain ⟨bl, h1, h2, _⟩ := h
  exact ⟨⟨bl[kk]'(by omega), h1.cell (by rw [List.getElem?_eq_getElem])⟩, h1.frozen kk⟩
theorem LAt.put (h : LAt bs g m n kk x wr b t) (hk : kk < n) (y : Int) : LAt bs g m n kk (some y) (wr.setCell ⟨b, kk, none⟩ (.int .i64 y)) b t := by
  obtain ⟨bl, h1, h2, h3, _⟩ := h
  refine ⟨_, h1.set _ _, by simpa using h2, fun i hi => ?_, fun y' e => ?_⟩
  · rw [List.getElem?_set_ne (by omega)]
    exact h3 i hi
  · cases e
    rw [List.getElem?_set_self (by omega)]
theorem LAt.next {y : Int} (h : LAt bs g m n kk (some y) wr b t) (hy : y = (way bs g m kk).2) : LAt bs g m n (kk + 1) none wr b t := by
  obtain ⟨bl, h1, h2, h3, h4⟩ := h
  refine ⟨bl, h1, h2, fun i hi => ?_, fun y e => by cases e⟩
  rcases Nat.lt_or_ge i kk with h | h
  · exact h3 i h
  · obtain rfl : i = kk := by omega
    rw [h4 y rfl, hy]
end

theorem made_one (n : Nat) : (madeCells #[Value.int .i64 0] n).toList = List.replicate n (.int .i64 0) := by
  apply List.ext_getElem?
  intro j
  simp only [madeCells, Array.toList_map, Array.toList_range, List.getElem?_map, List.getElem?_replicate]
  by_cases h : j < n
  · rw [List.getElem?_range h, if_pos h]
    simp [Nat.mod_one]
  · rw [if_neg h, List.getElem?_eq_none (by simpa using h)]
    rfl
end Go.Port
namespace Go.Proofs.Ytadnhjloeaddnaa
open Go.RowKit Go.Port

set_option maxRecDepth 100000 in
set_option maxHeartbeats 4000000 in
theorem rleast_any (a : Option Addr) (c g m : Nat) (most : Int) (bs : List UInt8) (w : World) (hNb : bs.length ≤ 200000) (hnb : nPl bs.length g ≤ 9001) (hm : (m : Int) = heldI most) (hg : (g : Int) = min 1024 (heldI most)) (hNc : bs.length ≤ c) (hcm : c ≤ maxLen)
    (hc : ∀ j u, (bs.map bv)[j]? = some u → ∃ b off, a = some ⟨b, off, none⟩ ∧ b < w.heap.size ∧ w.cell? ⟨b, off + j, none⟩ = some u) :
    Calls Try.prog 14 #[.slice a bs.length c, .int .i64 most] w (RetV w (.int .i64 (way bs g m (nPl bs.length g - 1)).2)) := by
  have hh := heldI_bounds most
  have HH := hid (fun W => most_any most W)
  generalize heldI most = h at *
  have hg0 : 0 < g := by omega
  have hg1 : g ≤ 1024 := by omega
  have hgm : g ≤ m := by omega
  have hn1 : 1 ≤ nPl bs.length g := Nat.succ_pos _
  have HPL := hid (fun k => (show k * g < bs.length ↔ k + 1 < nPl bs.length g from ⟨lt_nPl _ _ _ hg0, place_lt _ _ _ hg0⟩))
  have HPE := hid (fun k (hk : k + 1 < nPl bs.length g) => place_of_lt bs.length g k hg0 hk)
  have HPX := hid (place_last bs.length g hg0)
  generalize hn : nPl bs.length g = n at *
  have HC := hid hc
  clear hc
  unfold maxLen at hcm
  go_enter Try.func14, Try.ntmps14
  go_wp2_with (go_at_call 16; refine (HH.out _).mono ?_; rintro e w' ⟨rfl, rfl⟩)
  go_loopw [7, 8] (fun v x wr => ∃ (k : Nat) (y : Int), k + 1 ≤ n ∧ x = .int .i64 y ∧ Hid (y = ((k * g : Nat) : Int)) ∧ 0 ≤ y ∧ y ≤ 210000 ∧ wr.ownsRow w.heap.size 3 1 v k ((PL bs g k).map iv) ∧ Below w.heap.size w wr) (fun _ x _ => (250000 - intOf x).toNat)
  case atStart => exact ⟨0, 0, hn1, rfl, hid (by simp), by omega, by omega, World.ownsRow_nil _ _ _ _, Below.refl _ _⟩
  case round =>
    obtain ⟨k, y, hk, rfl, HY, hy0, hy1, hown, hB⟩ := hrel
    have hpl := HPL.out k
    have hyg := HY.out
    have hsz := hB.size
    by_cases hlt : y < bs.length
    · have hlt2 : k + 1 < n := hpl.1 (by omega)
      have HS := hid (PL_succ bs g k)
      have HE := hid (show ((place bs.length g k : Nat) : Int) = y from by rw [HPE.out k hlt2, hyg])
      have HY2 := hid (show y + min 1024 h = (((k + 1) * g : Nat) : Int) from by rw [hyg, ← hg, Nat.succ_mul]; omega)
      have HK := hid hlt2
      have hk9 : k < 9100 := by omega
      clear hpl hyg hlt2
      go_wp2_with (at_builtin; refine Hid.out ?_)
      refine hid ?_
      refine wpList_append1 rfl _ _ 29 rfl 3 _ 1 8 Try.underlying29 Try.info_int rfl (by decide) (by decide) _ w.heap.size _ _ _ _ rfl ?hu rfl rfl (by exact hown) ?hn ?hb ?hk
      case hu => simp [Value.oneCell']
      case hn => omega
      case hb => exact hsz
      case hk =>
        intro v' w1 hown' hg1
        have hB' := hB.trans (below_grown hown hg1 hsz)
        go_wp2
        go_roundw
        case rel => exact ⟨k + 1, y + min 1024 h, HK.out, rfl, hid HY2.out, by omega, by omega, by rw [HS.out, List.map_append]; rw [← HE.out] at hown'; exact hown', hB'⟩
        case measure => simp [intOf]; omega
    · have hlt2 : ¬ k + 1 < n := fun hh => hlt (by have := hpl.2 hh; omega)
      obtain rfl : n = k + 1 := by omega
      have HS := hid (PL_succ bs g k)
      have HX := hid (show place bs.length g k = bs.length from by have := HPX.out; rwa [Nat.add_sub_cancel] at this)
      have hk9 : k < 9100 := by omega
      clear hpl hyg hlt2
      go_wp2_with (at_builtin; refine Hid.out ?_)
      refine hid ?_
      refine wpList_append1 rfl _ _ 29 rfl 3 _ 1 8 Try.underlying29 Try.info_int rfl (by decide) (by decide) _ w.heap.size _ _ _ _ rfl ?hu rfl rfl (by exact hown) ?hn ?hb ?hk
      case hu => simp [Value.oneCell']
      case hn => omega
      case hb => exact hsz
      case hk =>
        intro v' w1 hown' hg1
        have hB1 := hB.trans (below_grown hown hg1 hsz)
        obtain ⟨P, cp, cs, rfl, hPb, hcp, hcp2, hBP, hcs⟩ := own_blk hown' (Nat.succ_pos k)
        have HCS := hid (show cs.take (k + 1) = (PL bs g (k + 1)).map iv from by rw [HS.out, List.map_append, HX.out]; simpa [iv] using hcs)
        have hmk0 := run_make_cells 29 3 _ 1 8 Try.underlying29 Try.info_int (k + 1) (by omega) (by omega) w1
        have hB2 := hB1.alloc hB1.size (.cells (madeCells #[Value.int .i64 0] (k + 1)) 3)
        have hBP2 := hBP.alloc (.cells (madeCells #[Value.int .i64 0] (k + 1)) 3)
        have hL : LAt bs g m (k + 1) 1 none (w1.alloc (.cells (madeCells #[Value.int .i64 0] (k + 1)) 3)) w1.heap.size 3 := by
          have h1 := Blk.new w1 (madeCells #[Value.int .i64 0] (k + 1)).toList 3
          rw [Array.toArray_toList, made_one] at h1
          refine ⟨_, h1, by simp, fun i hi => ?_, fun y e => by cases e⟩
          obtain rfl : i = 0 := by omega
          rw [List.getElem?_replicate, if_pos (by omega), way_zero]
        have hPlt := hBP.lt
        have hB9 := hB1.size
        clear hown' hg1 hBP hown hB hB1 hsz
        have hmk : ((k + 1 : Nat) : Int) = (k : Int) + 1 := by omega
        rw [hmk, Nat.mul_one] at hmk0
        have hmk1 : (Value.int .i64 0).cells = #[Value.int .i64 0] := rfl
        rw [hmk1] at hmk0
        clear hmk1 hmk
        have HB2 := hid hB2
        have HBP2 := hid hBP2
        have HL := hid hL
        clear hB2 hBP2 hL
        go_wp2
        generalize w1.alloc (.cells (madeCells #[Value.int .i64 0] (k + 1)) 3) = w2 at *
        generalize w1.heap.size = B9 at *
        have HPz := hid (fun (W : World) (hB : Blk W P cs 3) j (hj : j < k + 1) => (show W.cell? ⟨P, j, none⟩ = some (.int .i64 ((place bs.length g j : Nat) : Int)) from by
          refine hB.cell ?_
          have h1 := PL_get bs g (k + 1) j hj
          have h2 : (cs.take (k + 1))[j]? = some (.int .i64 ((place bs.length g j : Nat) : Int)) := by rw [HCS.out, List.getElem?_map, h1]; rfl
          rwa [List.getElem?_take_of_lt hj] at h2))
        go_loopw [10] (fun i wr => ∃ kk : Nat, 1 ≤ kk ∧ kk ≤ k + 1 ∧ i = .int .i64 kk ∧ LAt bs g m (k + 1) kk none wr B9 3 ∧ Blk wr P cs 3 ∧ Below w.heap.size w wr) (fun i _ => k + 1 - (intOf i).toNat)
        case atStart => exact ⟨1, Nat.le_refl _, by omega, rfl, HL.out, HBP2.out, HB2.out⟩
        case round =>
          obtain ⟨kk, hk1, hk2, rfl, hL, hP, hBw⟩ := hrel
          by_cases hkk : kk < k + 1
          · obtain ⟨⟨u0, hu0⟩, hz0⟩ := hL.free hkk
            have tk : (kk : Int) < (k : Int) + 1 := by omega
            have hL0 := hid (hL.put hkk (-1))
            have hP0 := hid (hP.other (a := ⟨B9, kk, none⟩) (.int .i64 (-1)) (by dsimp only; omega))
            have hBw0 := hid (hBw.setCell (p := ⟨B9, kk, none⟩) hB9 (.int .i64 (-1)))
            clear hL hP hBw
            go_wp2
            clear hz0 hu0
            go_loopw [11] (fun i wr2 => ∃ ii : Nat, ii ≤ kk ∧ i = .int .i64 ii ∧ LAt bs g m (k + 1) kk (some (refGo bs g m kk ii)) wr2 B9 3 ∧ Blk wr2 P cs 3 ∧ Below w.heap.size w wr2) (fun i _ => kk - (intOf i).toNat)
            case atStart => exact ⟨0, Nat.zero_le _, rfl, hL0.out, hP0.out, hBw0.out⟩
            case round =>
              obtain ⟨ii, hi1, rfl, hL, hP, hBw⟩ := hrel
              by_cases hik : ii < kk
              · have hx := hL.get hik
                have hcur := hL.cur
                have hpi := HPz.out wr hP ii (by omega)
                have hpk := HPz.out wr hP kk hkk
                have hpm := place_mono bs.length g (Nat.le_of_lt hik)
                have hpl := place_le bs.length g kk
                have ti : (ii : Int) < (k : Int) + 1 := by omega
                have e17 : IntKind.i64.wrap (((place bs.length g kk : Nat) : Int) - ((place bs.length g ii : Nat) : Int)) = ((place bs.length g kk : Nat) : Int) - ((place bs.length g ii : Nat) : Int) := by
                  rw [IntKind.wrap_i64]
                  omega
                have HGo := hid (show refGo bs g m kk (ii + 1) = refStep bs g m kk (refGo bs g m kk ii) ii from rfl)
                have HL := hid hL
                have HP := hid hP
                have HBw := hid hBw
                clear hL hP hBw
                by_cases hmm : m < place bs.length g kk - place bs.length g ii
                · have t17 : h < ((place bs.length g kk : Nat) : Int) - ((place bs.length g ii : Nat) : Int) := by omega
                  go_wp2
                  go_quiet (fail)
                  go_wp2
                  go_roundw
                  case rel => exact ⟨ii + 1, by omega, by go_num, by rw [HGo.out, refStep, if_pos hmm]; exact HL.out, HP.out, below_drewN HBw.out _⟩
                  case measure => simp [intOf]; omega
                · have t17 : ¬ h < ((place bs.length g kk : Nat) : Int) - ((place bs.length g ii : Nat) : Int) := by omega
                  have t17' : decide (h < ((place bs.length g kk : Nat) : Int) - ((place bs.length g ii : Nat) : Int)) = false := by simpa using t17
                  go_wp2
                  have hpos : place bs.length g ii < place bs.length g kk := place_strict bs.length g hg0 hik (by rw [hn]; exact hkk)
                  obtain ⟨b0, off0, rfl, hq1, hq2⟩ := HC.out 0 (bv (bs[0]'(by omega))) (by rw [List.getElem?_map, List.getElem?_eq_getElem (by omega)]; rfl)
                  clear hq1 hq2
                  go_quiet (fail)
                  have HL3 := hid (show LAt bs g m (k + 1) kk (some (refGo bs g m kk ii)) (wr.drewN nq) B9 3 from HL.out)
                  have HP3 := hid (show Blk (wr.drewN nq) P cs 3 from HP.out)
                  have HBw3 := hid (below_drewN HBw.out nq)
                  clear hx hcur hpi hpk HL HP HBw
                  go_wp2
                  generalize wr.drewN nq = w3 at *
                  have hw0 := way_nonneg bs g m hgm ii
                  have hw1 := way_small bs g m hgm ii
                  have hp0 := partS_nonneg (segK bs g ii kk)
                  have hp1 := partS_le (segK bs g ii kk)
                  have hsl : (segK bs g ii kk).length = place bs.length g kk - place bs.length g ii := seg_length bs _ _ hpl
                  rw [hsl] at hp1
                  have HPt := hid (fun (W : World) (hW : Below w3.heap.size w3 W) => rpart_any (some ⟨b0, off0 + place bs.length g ii, none⟩) (place bs.length g kk - place bs.length g ii) (c - place bs.length g ii) (segK bs g ii kk) W hsl (by unfold maxLen; omega) (fun j u hu => by
                    have hj : j < place bs.length g kk - place bs.length g ii := by
                      have := (List.getElem?_eq_some_iff.1 hu).1
                      rwa [List.length_map, hsl] at this
                    obtain ⟨b', off', he, hb1, hb2⟩ := HC.out (place bs.length g ii + j) u (by
                      rw [List.getElem?_map] at hu ⊢
                      unfold segK seg at hu
                      rw [List.getElem?_take_of_lt hj, List.getElem?_drop] at hu
                      exact hu)
                    simp only [Option.some.injEq, Addr.mk.injEq, and_true] at he
                    obtain ⟨rfl, rfl⟩ := he
                    have hbb := HBw3.out.trans (hW.mono HBw3.out.size)
                    refine ⟨b0, off0 + place bs.length g ii, rfl, Nat.lt_of_lt_of_le hb1 hbb.size, ?_⟩
                    rw [Nat.add_assoc]
                    exact (hbb.cell (p := ⟨b0, off0 + (place bs.length g ii + j), none⟩) hb1).trans hb2))
                  have hx3 := HL3.out.get hik
                  have hpi3 := HPz.out w3 HP3.out ii (by omega)
                  have hpk3 := HPz.out w3 HP3.out kk hkk
                  have hB9lt := HL3.out.lt
                  have hPlt3 := HP3.out.lt
                  have HStep := hid (show refGo bs g m kk (ii + 1) = if refGo bs g m kk ii < 0 ∨ (way bs g m ii).2 + partS (segK bs g ii kk) < refGo bs g m kk ii then (way bs g m ii).2 + partS (segK bs g ii kk) else refGo bs g m kk ii from by rw [HGo.out, refStep, if_neg hmm])
                  have e18 : IntKind.i64.wrap ((way bs g m ii).2 + partS (segK bs g ii kk)) = (way bs g m ii).2 + partS (segK bs g ii kk) := by
                    rw [IntKind.wrap_i64]
                    omega
                  clear hsl
                  have q1 : ((place bs.length g ii : Nat) : Int) ≤ ((place bs.length g kk : Nat) : Int) := by omega
                  have q2 : ((place bs.length g kk : Nat) : Int) ≤ (c : Int) := by omega
                  have q3 : place bs.length g ii ≤ place bs.length g kk := by omega
                  have q4 : place bs.length g kk ≤ c := by omega
                  have q5 : ¬ c = place bs.length g ii := by omega
                  have q6 : (0 : Int) ≤ ((place bs.length g ii : Nat) : Int) := by omega
                  have q7 : c ≠ place bs.length g ii := by omega
                  go_region_held3 (fun W => W.cell? ⟨B9, ii, none⟩ = some (.int .i64 (way bs g m ii).2) ∧ W.cell? ⟨P, ii, none⟩ = some (.int .i64 ((place bs.length g ii : Nat) : Int)) ∧ W.cell? ⟨P, kk, none⟩ = some (.int .i64 ((place bs.length g kk : Nat) : Int))) (first | exact ⟨hx3, hpi3, hpk3⟩ | exact ⟨hx4, hpi4, hpk4⟩) (first | (go_at_call 26; refine (HPt.out _ ((Below.refl _ _).drew)).mono ?_; rintro e w4 ⟨rfl, hb4⟩; have hx4 := (hb4.cell (p := ⟨B9, ii, none⟩) hB9lt).trans hx3; have hpi4 := (hb4.cell (p := ⟨P, ii, none⟩) hPlt3).trans hpi3; have hpk4 := (hb4.cell (p := ⟨P, kk, none⟩) hPlt3).trans hpk3))
                  have hb4' : Below w3.heap.size w3 w4 := ⟨hb4.os, hb4.tape, hb4.output, hb4.size, hb4.block⟩
                  have hL4 := HL3.out.low hb4'
                  have hP4 := HP3.out.below hb4' hPlt3
                  have hBw4 := HBw3.out.trans (hb4'.mono HBw3.out.size)
                  have hcur4 := hL4.cur
                  have hz4 := (hL4.free hkk).2
                  clear hb4 hb4' HL3 HP3 HBw3 hx3 hpi3 hpk3 hx4 hpi4 hpk4 HPt e17 e18 q1 q2 q3 q4 q5 q6 q7
                  generalize (way bs g m ii).2 + partS (segK bs g ii kk) = N at *
                  generalize refGo bs g m kk ii = R at *
                  have HLP := hid (hL4.put hkk N)
                  have HPP := hid (hP4.other (a := ⟨B9, kk, none⟩) (.int .i64 N) (by dsimp only; omega))
                  have HBP := hid (hBw4.setCell (p := ⟨B9, kk, none⟩) hB9 (.int .i64 N))
                  have HL4 := hid hL4
                  have HP4 := hid hP4
                  have HBw4 := hid hBw4
                  have HIK := hid hik
                  clear hL4 hP4 hBw4
                  by_cases c1 : R < 0
                  · go_wp2
                    go_roundw
                    case rel => exact ⟨ii + 1, HIK.out, by go_num, by rw [HStep.out, if_pos (Or.inl c1)]; exact HLP.out, HPP.out, HBP.out⟩
                    case measure =>
                      have := HIK.out
                      simp [intOf]; omega
                  · by_cases c2 : N < R
                    · go_wp2
                      go_roundw
                      case rel => exact ⟨ii + 1, HIK.out, by go_num, by rw [HStep.out, if_pos (Or.inr c2)]; exact HLP.out, HPP.out, HBP.out⟩
                      case measure =>
                        have := HIK.out
                        simp [intOf]; omega
                    · go_wp2
                      go_roundw
                      case rel => exact ⟨ii + 1, HIK.out, by go_num, by rw [HStep.out, if_neg (fun h => h.elim c1 c2)]; exact HL4.out, HP4.out, HBw4.out⟩
                      case measure =>
                        have := HIK.out
                        simp [intOf]; omega
              · obtain rfl : ii = kk := by omega
                obtain ⟨kj, rfl⟩ : ∃ kj, ii = kj + 1 := ⟨ii - 1, by omega⟩
                have hL2 := hL.next (refGo_way bs g m hgm kj)
                clear hL
                have HKK := hid hkk
                go_wp2
                go_roundw
                case rel => exact ⟨kj + 1 + 1, by omega, HKK.out, by go_num, hL2, hP, hBw⟩
                case measure =>
                  have := HKK.out
                  simp [intOf]; omega
          · obtain rfl : kk = k + 1 := by omega
            have hl := hL.get (Nat.lt_succ_self k)
            go_wp2
            go_ret
            exact ⟨rfl, hBw⟩
end Go.Proofs.Ytadnhjloeaddnaa
