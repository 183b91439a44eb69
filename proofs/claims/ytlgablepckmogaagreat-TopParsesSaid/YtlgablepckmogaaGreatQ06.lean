/-
  The walks of layer 28, second part: the program's lengths of matches.
-/
import Derived.Test.YtlgablepckmogaaGreatQ02
import Derived.Deep.RegionHeld3
namespace Go.Proofs.YtlgablepckmogaaGreat
open Go.RowKit Go.Port
set_option maxHeartbeats 800000 in
theorem earlier_any (a : Option Addr) (n c : Nat) (pos frm : Int) (w : World) :
    Calls Tryz.prog 170 #[.agg #[.slice a n c], .int .i64 pos, .int .i64 frm] w (RetV w (.bool (earlierB n pos frm))) := by
  have hB := below_new w (.cells #[.slice a n c] 245)
  have HB := hid hB
  clear hB
  unfold earlierB
  by_cases h1 : 0 ≤ frm
  · by_cases h2 : frm < pos
    · go_enter Tryz.func170, Tryz.ntmps170
      go_wp2
      go_ret
      exact ⟨by simp [h1, h2], HB.out⟩
    · go_enter Tryz.func170, Tryz.ntmps170
      go_wp2
      go_ret
      exact ⟨by simp; omega, HB.out⟩
  · go_enter Tryz.func170, Tryz.ntmps170
    go_wp2
    go_ret
    exact ⟨by simp; omega, HB.out⟩
set_option maxRecDepth 100000 in
set_option maxHeartbeats 800000 in
theorem length_any (a : Option Addr) (c p q : Nat) (b : List UInt8) (most : Int) (w : World) (hb : b.length ≤ 1000000) (hbc : b.length ≤ c) (hqp : q < p) (hpn : p ≤ b.length)
    (hc : ∀ j u, (b.map bv)[j]? = some u → ∃ bl off, a = some ⟨bl, off, none⟩ ∧ bl < w.heap.size ∧ w.cell? ⟨bl, off + j, none⟩ = some u) :
    Calls Tryz.prog 171 #[.agg #[.slice a b.length c, .int .i64 (p : Int), .int .i64 most], .int .i64 (q : Int)] w (RetV w (.int .i64 (cpl most.toNat (b.drop p) (b.drop q) : Nat))) := by
  have h0 : 0 < b.length := by omega
  obtain ⟨bl, off, rfl, hlt, _⟩ := hc 0 (bv (b[0]'h0)) (by rw [List.getElem?_map, List.getElem?_eq_getElem h0]; rfl)
  have HC := hid (fun (j : Nat) (hj : j < b.length) => show w.cell? ⟨bl, off + j, none⟩ = some (.int .u8 ((b[j]'hj).toNat : Int)) from by
    obtain ⟨bl', off', e, _, h⟩ := hc j (bv (b[j]'hj)) (by rw [List.getElem?_map, List.getElem?_eq_getElem hj]; rfl)
    cases e
    exact h)
  clear hc
  have hL := cpl_le most.toNat (b.drop p) (b.drop q)
  have HM := hid (fun k (h : k < cpl most.toNat (b.drop p) (b.drop q)) => cpl_more h)
  have HS := hid (cpl_end (b := b) (p := p) (q := q) (most := most) (by omega) rfl)
  rw [List.length_drop, List.length_drop] at hL
  generalize cpl most.toNat (b.drop p) (b.drop q) = L at *
  have hB := below_new w (.cells #[.slice (some ⟨bl, off, none⟩) b.length c, .int .i64 (p : Int), .int .i64 most] 247)
  have HB := hid hB
  have hpI : (p : Int) ≤ (b.length : Int) := by omega
  have hqI : (q : Int) ≤ (b.length : Int) := by omega
  have hbI : (b.length : Int) ≤ (c : Int) := by omega
  have hne : bl ≠ w.heap.size := by omega
  clear hB
  go_enter Tryz.func171, Tryz.ntmps171
  go_wp2
  go_quiet (fail)
  have hA1 : p < b.length → (if b.length = p then (some ⟨bl, off, none⟩ : Option Addr) else some ⟨bl, off + p, none⟩) = some ⟨bl, off + p, none⟩ := fun h => if_neg (by omega)
  generalize (if b.length = p then (some ⟨bl, off, none⟩ : Option Addr) else some ⟨bl, off + p, none⟩) = A1 at *
  have hla : b.length - p + p = b.length := by omega
  have hlb : b.length - q + q = b.length := by omega
  generalize b.length - p = la at *
  generalize b.length - q = lb at *
  have HC1 := hid (fun (j : Nat) (hj : j < b.length) => (HB.out.cell (p := ⟨bl, off + j, none⟩) hlt).trans (HC.out j hj))
  have cP := (Blk.new w [.slice (some ⟨bl, off, none⟩) b.length c, .int .i64 (p : Int), .int .i64 most] 247).cell (k := 2) rfl
  generalize w.alloc (.cells #[.slice (some ⟨bl, off, none⟩) b.length c, .int .i64 (p : Int), .int .i64 most] 247) = W1 at *
  have HBD := hid (fun m => below_drewN HB.out m)
  have HA1 := hid hA1
  clear hA1 hpI hqI hbI hne HB HC
  go_wp2
  go_loopw [8] (fun i wr => ∃ k m : Nat, k ≤ L ∧ i = .int .i64 k ∧ wr = W1.drewN m) (fun i _ => L - (intOf i).toNat)
  case atStart => exact ⟨0, nq, Nat.zero_le _, rfl, rfl⟩
  case round =>
    obtain ⟨k, m, hk, rfl, rfl⟩ := hrel
    by_cases hlt2 : k < L
    · obtain ⟨h1, h2, h3, h4⟩ := HM.out k hlt2
      have e := HA1.out (by omega)
      subst e
      have c1 := HC1.out (p + k) h2
      have c2 := HC1.out (q + k) h3
      rw [List.getElem?_eq_getElem h2, List.getElem?_eq_getElem h3] at h4
      rw [← Option.some.inj h4, ← Nat.add_assoc] at c2
      rw [← Nat.add_assoc] at c1
      generalize b[p + k]'h2 = x at *
      have hkl : (k : Int) < (la : Int) := by omega
      have hkl2 : (k : Int) < (lb : Int) := by omega
      clear h4
      by_cases hml : (la : Int) < most
      · go_wp2
        go_quiet (fail)
        go_wp2
        go_roundw
        case rel => exact ⟨k + 1, m + nq, hlt2, by go_num, rfl⟩
        case measure => simp [intOf]; omega
      · go_wp2
        have hml2 : ¬ (la : Int) < most := by omega
        go_quiet (fail)
        go_wp2
        go_roundw
        case rel => exact ⟨k + 1, m + nq, hlt2, by go_num, rfl⟩
        case measure => simp [intOf]; omega
    · obtain rfl : k = L := by omega
      have h1 := HS.out
      by_cases h0 : (k : Int) < most
      · by_cases h2 : p + k < b.length
        · have h2q : q + k < b.length := by omega
          have h3 : b[p + k]? ≠ b[q + k]? := by
            rcases h1 with h | h | h
            · omega
            · omega
            · exact h
          have e := HA1.out (by omega)
          subst e
          have c1 := HC1.out (p + k) h2
          have c2 := HC1.out (q + k) h2q
          rw [List.getElem?_eq_getElem h2, List.getElem?_eq_getElem h2q] at h3
          have hxy := u8_ne (fun e => h3 (congrArg some e))
          rw [← Nat.add_assoc] at c1 c2
          generalize b[p + k]'h2 = x at *
          generalize b[q + k]'h2q = y at *
          have hkl : (k : Int) < (la : Int) := by omega
          have hkl2 : (k : Int) < (lb : Int) := by omega
          clear h3 h1
          by_cases hml : (la : Int) < most
          · go_wp2
            go_quiet (fail)
            go_wp2
            go_ret
            exact ⟨rfl, by first | exact HBD.out _ | exact below_drewN (HBD.out _) _⟩
          · go_wp2
            have hml2 : ¬ (la : Int) < most := by omega
            go_quiet (fail)
            go_wp2
            go_ret
            exact ⟨rfl, by first | exact HBD.out _ | exact below_drewN (HBD.out _) _⟩
        · have hml : (la : Int) < most := by omega
          clear h1
          go_wp2
          have hd : decide ((k : Int) < (la : Int)) = false := decide_eq_false (by omega)
          have hd2 : decide (k < la) = false := decide_eq_false (by omega)
          go_quiet (fail)
          go_wp2
          go_ret
          exact ⟨rfl, by first | exact HBD.out _ | exact below_drewN (HBD.out _) _⟩
      · clear h1
        go_wp2
        have hml2 : ¬ (la : Int) < most := by omega
        have hd : decide ((k : Int) < most) = false := decide_eq_false (by omega)
        go_quiet (fail)
        go_wp2
        go_ret
        exact ⟨rfl, by first | exact HBD.out _ | exact below_drewN (HBD.out _) _⟩
end Go.Proofs.YtlgablepckmogaaGreat
