/-
  The walks of the split, seventh part: the rows of counts up to each place.
-/
import Derived.Test.YtadnhjloeaddnaaSplitF
import Derived.Test.YtadnhjloeaddnaaRowsAt
import Derived.Laws.MakeOwn
namespace Go.Port
theorem run_make_cells {P : Program} (t e : TypeId) (z : Value) (sz bytes : Nat) (ht : P.underlying t = some (.slice e)) (hinfo : (P.info? e).map (fun i => (i.zero, i.size, i.bytes)) = some (some z, sz, bytes))
    (n : Nat) (hb : bytes * n ≤ 281474976710656) (h63 : n ≤ 9223372036854775807) (w : World) :
    (Instr.makeSlice t (.int .i64 (n : Int)) (.int .i64 (n : Int))).run P w = .ok (.slice (some ⟨w.heap.size, 0, none⟩) n n) (w.alloc (.cells (madeCells z.cells (n * sz)) e)) := by
  obtain ⟨i, hi, hzz⟩ := Option.map_eq_some_iff.1 hinfo
  simp only [Prod.mk.injEq] at hzz
  obtain ⟨hz, rfl, rfl⟩ := hzz
  have hb' : (i.bytes : Int) * (n : Int) ≤ 281474976710656 := by
    have h : ((i.bytes * n : Nat) : Int) ≤ 281474976710656 := by omega
    rwa [Int.natCast_mul] at h
  have hr := run_make (P := P) w t e i z ht hi hz .i64 .i64 n n (by omega) (Int.le_refl _) hb' (by omega)
  simpa only [Int.toNat_natCast] using hr

theorem madeCells_zeros (n j : Nat) (hj : j < n * 256) : (madeCells (zeros.map iv).toArray (n * 256))[j]? = some (.int .i64 0) := by
  have hs : ((zeros.map iv).toArray).size = 256 := by rw [List.size_toArray, List.length_map, zeros_length]
  have hlt : j % 256 < ((zeros.map iv).toArray).size := by rw [hs]; exact Nat.mod_lt _ (by decide)
  unfold madeCells
  rw [Array.getElem?_map, Array.getElem?_range, if_pos hj, Option.map_some, hs, getElem!_pos (zeros.map iv).toArray (j % 256) hlt, List.getElem_toArray, List.getElem_map]
  unfold zeros
  rw [List.getElem_replicate]
  rfl

/-- The rows while the count of row i + 1 has come to k bytes of its segment. -/
def rowsR (bs : List UInt8) (g i k : Nat) : Nat → List Int := fun j =>
  if j ≤ i then histS (bs.take (place bs.length g j)) else if j = i + 1 then histS (bs.take (place bs.length g i + k)) else zeros

def rowsQ (bs : List UInt8) (g i : Nat) : Nat → List Int := fun j => if j ≤ i then histS (bs.take (place bs.length g j)) else zeros

theorem nPl_le (n g : Nat) (hg : 0 < g) : nPl n g ≤ n + 1 := by
  unfold nPl
  have h1 : (n + g - 1) / g ≤ n := by
    rw [← Nat.lt_succ_iff, Nat.div_lt_iff_lt_mul hg]
    have : n + g ≤ n.succ * g := by
      rw [Nat.succ_mul]
      have := Nat.le_mul_of_pos_right n hg
      omega
    omega
  omega
end Go.Port
namespace Go.Proofs.Ytadnhjloeaddnaa
open Go.RowKit Go.Port

theorem Try.info_row : (Try.prog.info? 86).map (fun i => (i.zero, i.size, i.bytes)) = some (some (.agg (zeros.map iv).toArray), 256, 2048) := by kernel_rfl

set_option maxRecDepth 100000 in
set_option maxHeartbeats 2000000 in
theorem rows_any (a : Option Addr) (c bp cp g n N : Nat) (bs : List UInt8) (w : World) (hN : bs.length = N) (hNb : N ≤ 200000) (hn2 : n ≤ 9001) (hg : 0 < g) (hn : nPl bs.length g = n)
    (hc : ∀ j u, (bs.map bv)[j]? = some u → ∃ b off, a = some ⟨b, off, none⟩ ∧ b < w.heap.size ∧ w.cell? ⟨b, off + j, none⟩ = some u)
    (hz : ∀ k, k < n → w.cell? ⟨bp, 0 + k, none⟩ = some (.int .i64 (place bs.length g k : Nat))) (hcp : n ≤ cp) (hcp2 : cp ≤ maxLen) (hNc : N ≤ c) (hcm : c ≤ maxLen) :
    Calls Try.prog 45 #[.slice a N c, .slice (some ⟨bp, 0, none⟩) n cp] w fun e w' => ∃ b, e = .returned (.slice (some ⟨b, 0, none⟩) n n) ∧ RowsAt w' b n 86 (fun i => histS (bs.take (place bs.length g i))) ∧ Below w.heap.size w w' := by
  subst hN
  have hn1 : 1 ≤ n := by rw [← hn]; exact Nat.succ_pos _
  have hmk : ∀ W : World, (Instr.makeSlice 79 (.int .i64 (n : Int)) (.int .i64 (n : Int))).run Try.prog W = .ok (.slice (some ⟨W.heap.size, 0, none⟩) n n) (W.alloc (.cells (madeCells (zeros.map iv).toArray (n * 256)) 86)) := fun W =>
    run_make_cells 79 86 _ 256 2048 Try.underlying79 Try.info_row n (by omega) (by omega) W
  have HM := hid (RowsAt.made w n 86 (madeCells (zeros.map iv).toArray (n * 256)) (size_madeCells _ _) (fun j hj => madeCells_zeros n j hj))
  generalize madeCells (zeros.map iv).toArray (n * 256) = MC at *
  have HC := hid hc
  have HZ := hid hz
  have h0 : w.cell? ⟨bp, 0 + 0, none⟩ = some (.int .i64 (place bs.length g 0 : Nat)) := hz 0 (by omega)
  have hbp : bp < w.heap.size := World.block_lt_of_cell? w _ h0
  clear hc hz h0
  unfold maxLen at hcp2 hcm
  have H0 := hid (show ∀ i, i < n → rowsQ bs g 0 i = zeros from fun i _ => by
    unfold rowsQ
    split
    · rename_i h
      obtain rfl : i = 0 := by omega
      rw [place_zero, List.take_zero]
      rfl
    · rfl)
  by_cases h1 : n = 1
  · have HF := hid (HM.out.same (R' := fun i => histS (bs.take (place bs.length g i))) (fun i hi => by
      obtain rfl : i = 0 := by omega
      show histS (bs.take (place bs.length g 0)) = zeros
      rw [place_zero, List.take_zero]
      rfl))
    have e1 : n - 1 = 0 := by omega
    have HH1 := hid h1
    clear h1
    by_cases hcp1 : cp = 1
    all_goals
      go_enter Try.func45, Try.ntmps45
      go_wp2
      go_loopw [16] (fun i wr => i = .int .i64 0 ∧ wr = w.alloc (.cells MC 86)) (fun i _ => 0)
      case atStart => exact ⟨rfl, rfl⟩
      case round =>
        obtain ⟨rfl, rfl⟩ := hrel
        go_wp2
        go_ret
        exact ⟨_, rfl, HF.out, below_new w _⟩
  · have hcp1 : 1 < cp := by omega
    have HM2 := hid (HM.out.same (R' := rowsQ bs g 0) H0.out)
    go_enter Try.func45, Try.ntmps45
    go_wp2
    go_loopw [16] (fun v wr => ∃ i : Nat, i ≤ n - 1 ∧ v = .int .i64 i ∧ RowsAt wr w.heap.size n 86 (rowsQ bs g i) ∧ Below w.heap.size w wr) (fun v _ => n - 1 - (intOf v).toNat)
    case atStart => exact ⟨0, Nat.zero_le _, rfl, HM2.out, below_new w _⟩
    case round =>
      obtain ⟨i, hi, rfl, hR, hB⟩ := hrel
      by_cases hlt : i < n - 1
      · have hz1 := (hB.cell (p := ⟨bp, 0 + (i + 1), none⟩) hbp).trans (HZ.out (i + 1) (by omega))
        have hz0 := (hB.cell (p := ⟨bp, 0 + i, none⟩) hbp).trans (HZ.out i (by omega))
        rw [Nat.zero_add, Nat.add_comm i 1] at hz1
        rw [Nat.zero_add] at hz0
        have HRg := hid (hR.range (i := i) (by omega))
        have HT := hid (hR.there (i := i + 1) (by omega))
        have HR := hid hR
        have hzl : (rowsQ bs g i i).length = 256 := by
          unfold rowsQ
          rw [if_pos (Nat.le_refl i)]
          exact histS_length _
        have hml : ((rowsQ bs g i i).map iv).length = 256 := by rw [List.length_map, hzl]
        have h1c : ((rowsQ bs g i i).map iv).toArray.all (·.oneCell') = true := all_oneCell_toArray (fun v hv => by
          obtain ⟨x, _, rfl⟩ := List.mem_map.1 hv
          rfl)
        have HL := hid hml
        have H1C := hid h1c
        obtain ⟨wr2, hwr2, hR2, hB2⟩ : ∃ wr2, wr.setCells w.heap.size ((i + 1) * 256) ((rowsQ bs g i i).map iv).toArray.toList = wr2 ∧ RowsAt wr2 w.heap.size n 86 (fun j => if j = i + 1 then rowsQ bs g i i else rowsQ bs g i j) ∧ Below w.heap.size w wr2 :=
          ⟨_, rfl, hR.setRow (i := i + 1) (rowsQ bs g i i) (by omega) hzl, below_setCells (Nat.le_refl _) _ _ hB⟩
        have HR2 := hid (hR2.same (R' := rowsR bs g i 0) (fun j hj => by
          unfold rowsR rowsQ
          by_cases e : j = i + 1
          · subst e
            rw [if_neg (by omega), if_pos rfl, if_pos rfl, if_pos (Nat.le_refl i), Nat.add_zero]
          · by_cases e2 : j ≤ i
            · rw [if_pos e2, if_neg e, if_pos e2]
            · rw [if_neg e2, if_neg e, if_neg e, if_neg e2]))
        have hz3 := (hB2.cell (p := ⟨bp, 0 + i, none⟩) hbp).trans (HZ.out i (by omega))
        rw [Nat.zero_add] at hz3
        have HHW := hid hwr2
        clear hzl hml h1c hR hR2 hwr2
        generalize (rowsQ bs g i i).map iv = RL at *
        have hsz : RL.toArray.size = 256 := HL.out
        have HT2 := hid (show wr.there w.heap.size ((i + 1) * 256) RL.toArray.size from by rw [hsz]; exact HT.out)
        have HS2 := hid (show (Try.prog.info? 86).map (·.size) = some RL.toArray.size from by rw [hsz]; exact Try.size86)
        clear hsz
        have hp1 : place bs.length g i < place bs.length g (1 + i) := by
          rw [Nat.add_comm]
          exact place_strict _ _ hg (by omega) (by omega)
        have hp2 : place bs.length g (1 + i) ≤ bs.length := place_le _ _ _
        have hp3 := hid (show place bs.length g (1 + i) = place bs.length g (i + 1) from by rw [Nat.add_comm])
        have HP := hid (fun k => show rowsR bs g i k = fun j => if j ≤ i then histS (bs.take (place bs.length g j)) else if j = i + 1 then histS (bs.take (place bs.length g i + k)) else zeros from rfl)
        have HP3 := hid (show rowsR bs g i (place bs.length g (1 + i) - place bs.length g i) = rowsQ bs g (i + 1) from by
          funext j
          unfold rowsR rowsQ
          by_cases e2 : j ≤ i
          · rw [if_pos e2, if_pos (by omega)]
          · rw [if_neg e2]
            by_cases e : j = i + 1
            · subst e
              rw [if_pos rfl, if_pos (Nat.le_refl _), ← Nat.add_comm 1 i]
              congr 2
              omega
            · rw [if_neg e, if_neg (by omega)])
        have hpc : place bs.length g i < c := by omega
        obtain ⟨b, off, rfl, hbl, _⟩ := HC.out 0 (bv (bs[0]'(by omega))) (by rw [List.getElem?_map, List.getElem?_eq_getElem (by omega)]; rfl)
        go_wp2_with (first
          | (refine wpList_load_mid rfl 86 _ rfl w.heap.size (i * 256) rfl RL _ HRg.out Try.underlying86 rfl (by rw [HL.out]; exact Try.size86) ?_)
          | (refine wpList_store_mid rfl 86 _ _ rfl w.heap.size ((i + 1) * 256) RL.toArray rfl rfl HT2.out HS2.out H1C.out ?_; rw [HHW.out]))
        go_loopw [37] (fun v wq => ∃ k : Nat, k ≤ place bs.length g (1 + i) - place bs.length g i ∧ v = .int .i64 k ∧ RowsAt wq w.heap.size n 86 (rowsR bs g i k) ∧ Below w.heap.size w wq) (fun v _ => place bs.length g (1 + i) - place bs.length g i - (intOf v).toNat)
        case atStart => exact ⟨0, Nat.zero_le _, rfl, HR2.out, hB2⟩
        case round =>
          obtain ⟨k, hk, rfl, hR, hB3⟩ := hrel
          by_cases hlt3 : k < place bs.length g (1 + i) - place bs.length g i
          · obtain ⟨x, hx⟩ : ∃ x, bs[place bs.length g i + k]? = some x := ⟨bs[place bs.length g i + k]'(by omega), by rw [List.getElem?_eq_getElem]⟩
            have hcell : wr.cell? ⟨b, off + (place bs.length g i + k), none⟩ = some (bv x) := by
              obtain ⟨b', off', he, hb1, hb2⟩ := HC.out (place bs.length g i + k) (bv x) (by rw [List.getElem?_map, hx]; rfl)
              simp only [Option.some.injEq, Addr.mk.injEq, and_true] at he
              obtain ⟨rfl, rfl⟩ := he
              exact (hB3.cell (p := ⟨b, off + (place bs.length g i + k), none⟩) hb1).trans hb2
            rw [← Nat.add_assoc] at hcell
            have hx2 : x.toNat < 256 := x.toNat_lt
            obtain ⟨z, hz⟩ : ∃ z, (histS (bs.take (place bs.length g i + k)))[x.toNat]? = some z := ⟨(histS (bs.take (place bs.length g i + k)))[x.toNat]'(by rw [histS_length]; exact hx2), by rw [List.getElem?_eq_getElem]⟩
            have hRi : rowsR bs g i k (i + 1) = histS (bs.take (place bs.length g i + k)) := by
              unfold rowsR
              rw [if_neg (by omega), if_pos rfl]
            have hqc := hR.cell (i := i + 1) (s := x.toNat) (by omega) hx2
            rw [hRi, List.getD_eq_getElem?_getD, hz, Option.getD_some] at hqc
            have hqf := hR.frozen ((i + 1) * 256 + x.toNat)
            have hle := histS_le (bs.take (place bs.length g i + k)) x.toNat z (by rw [List.length_take]; omega) hz
            rw [List.length_take] at hle
            have HSet := hid ((hR.set (i := i + 1) (s := x.toNat) (z + 1) (by omega) hx2).same (R' := rowsR bs g i (k + 1)) (fun j hj => by
              by_cases e : j = i + 1
              · subst e
                rw [if_pos rfl, hRi]
                unfold rowsR
                rw [if_neg (by omega), if_pos rfl]
                show histS (bs.take (place bs.length g i + k + 1)) = _
                rw [List.take_succ_eq_append_getElem (by omega)]
                have e2 : bs[place bs.length g i + k]'(by omega) = x := by
                  have := List.getElem?_eq_getElem (l := bs) (i := place bs.length g i + k) (by omega)
                  rw [hx] at this
                  exact (Option.some.inj this).symm
                rw [e2]
                unfold histS at hz ⊢
                rw [bumps_snoc, bump_plain _ _ z hz (by omega)]
              · rw [if_neg e]
                unfold rowsR
                by_cases e2 : j ≤ i
                · rw [if_pos e2, if_pos e2]
                · rw [if_neg e2, if_neg e2, if_neg e, if_neg e]))
            have HK := hid hlt3
            have hle2 : 0 ≤ z ∧ z ≤ 200000 := by omega
            have t3 : (k : Int) < ((place bs.length g (1 + i) - place bs.length g i : Nat) : Int) := by omega
            clear hx hz hRi hle hR hk hlt3
            unfold bv at hcell
            generalize hX : x.toNat = X at *
            have t4 : (X : Int) < 256 := by omega
            go_wp2
            go_region
            go_wp2
            go_roundw
            case rel => exact ⟨k + 1, HK.out, by go_num, HSet.out, (hB3.setCell (Nat.le_refl _) _).drew⟩
            case measure =>
              have := HK.out
              simp [intOf]; omega
          · obtain rfl : k = place bs.length g (1 + i) - place bs.length g i := by omega
            rw [HP3.out] at hR
            have HJ := hid hlt
            clear hlt3
            go_wp2
            go_roundw
            case rel => exact ⟨i + 1, HJ.out, by go_num, hR, hB3⟩
            case measure =>
              have := HJ.out
              simp [intOf]; omega
      · obtain rfl : i = n - 1 := by omega
        have HF := hid (hR.same (R' := fun i => histS (bs.take (place bs.length g i))) (fun j hj => by
          unfold rowsQ
          rw [if_pos (by omega)]))
        clear hR
        go_wp2
        go_ret
        exact ⟨_, rfl, HF.out, hB⟩
end Go.Proofs.Ytadnhjloeaddnaa
