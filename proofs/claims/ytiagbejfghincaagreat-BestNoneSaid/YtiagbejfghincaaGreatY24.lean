/-
  The walks of layer 28, first part: what is earlier; the lengths of matches, in the program and in the reference.
  The walks of layer 28, second part: the program's lengths of matches.
  The walks of layer 28, fifth part: all matches with earlier positions. The walks of layer 28, sixth part: the first one in an order; the best match. The walks of layer 28, seventh part: the best match.
-/
import Derived.Test.YtiagbejfghincaaGreatY02
import Derived.Test.YtiagbejfghincaaGreatY01
import Derived.Test.YtiagbejfghincaaGreatY06
import Derived.Test.YtiagbejfghincaaGreatChecked
import Derived.Deep.RegionHeld3
import Derived.Laws.AppendOwnNone
namespace Go.Port
open Go.RowKit
theorem cpl_more {b : List UInt8} {p q k : Nat} {most : Int} (h : k < cpl most.toNat (b.drop p) (b.drop q)) : (k : Int) < most ∧ p + k < b.length ∧ q + k < b.length ∧ b[p + k]? = b[q + k]? := by
  have h1 := cpl_le most.toNat (b.drop p) (b.drop q)
  have h2 := cpl_eq most.toNat (b.drop p) (b.drop q) k h
  rw [List.getElem?_drop, List.getElem?_drop] at h2
  rw [List.length_drop, List.length_drop] at h1
  exact ⟨by omega, by omega, by omega, h2⟩
theorem cpl_end {b : List UInt8} {p q L : Nat} {most : Int} (hq : q ≤ p) (h : L = cpl most.toNat (b.drop p) (b.drop q)) : ¬ (L : Int) < most ∨ ¬ p + L < b.length ∨ b[p + L]? ≠ b[q + L]? := by
  rcases Int.lt_or_le (L : Int) most with h1 | h1
  · rcases Nat.lt_or_ge (p + L) b.length with h2 | h2
    · have h3 := cpl_stop most.toNat (b.drop p) (b.drop q) (by omega) (by rw [List.length_drop]; omega) (by rw [List.length_drop]; omega)
      rw [← h, List.getElem?_drop, List.getElem?_drop] at h3
      exact .inr (.inr h3)
    · exact .inr (.inl (by omega))
  · exact .inl (by omega)
theorem u8_ne {x y : UInt8} (h : x ≠ y) : ¬ (x.toNat : Int) = (y.toNat : Int) := fun e => h (UInt8.toNat_inj.1 (by omega))
theorem earlier_iff {n : Nat} {pos frm : Int} (h : earlierB n pos frm = true) : ∃ p q : Nat, pos = (p : Int) ∧ frm = (q : Int) ∧ q < p ∧ p ≤ n := by
  unfold earlierB at h
  simp only [Bool.and_eq_true, decide_eq_true_eq] at h
  exact ⟨pos.toNat, frm.toNat, by omega, by omega, by omega, by omega⟩
end Go.Port
namespace Go.Proofs.YtiagbejfghincaaGreat
open Go.RowKit Go.Port
theorem rearlier_any (a : Option Addr) (n c : Nat) (pos frm : Int) (w : World) :
    Calls Tryz.prog 126 #[.slice a n c, .int .i64 pos, .int .i64 frm] w fun e w' => e = .returned (.bool (earlierB n pos frm)) ∧ w = w' := by
  unfold earlierB
  by_cases h1 : 0 ≤ frm
  · by_cases h2 : frm < pos
    · go_enter Tryz.func126, Tryz.ntmps126
      go_wp2
      go_ret
      exact ⟨by simp [h1, h2], rfl⟩
    · go_enter Tryz.func126, Tryz.ntmps126
      go_wp2
      go_ret
      exact ⟨by simp; omega, rfl⟩
  · go_enter Tryz.func126, Tryz.ntmps126
    go_wp2
    go_ret
    exact ⟨by simp; omega, rfl⟩
set_option maxRecDepth 100000 in
set_option maxHeartbeats 800000 in
theorem rlen_any (a : Option Addr) (c : Nat) (b : List UInt8) (pos frm most : Int) (w : World) (hb : b.length ≤ 1000000)
    (hc : ∀ j u, (b.map bv)[j]? = some u → ∃ bl off, a = some ⟨bl, off, none⟩ ∧ bl < w.heap.size ∧ w.cell? ⟨bl, off + j, none⟩ = some u) :
    Calls Tryz.prog 127 #[.slice a b.length c, .int .i64 pos, .int .i64 frm, .int .i64 most] w fun e w' => e = .returned (.int .i64 (lenS b pos frm most : Nat)) ∧ ∃ m, w' = w.drewN m := by
  have HC := hid hc
  clear hc
  have HE := hid (rearlier_any a b.length c pos frm w)
  unfold lenS
  cases he : earlierB b.length pos frm with
  | false =>
    rw [he] at HE
    clear he
    go_enter Tryz.func127, Tryz.ntmps127
    go_wp2_with (go_at_call 126; refine HE.out.mono ?_; rintro e w' ⟨rfl, rfl⟩)
    go_ret
    exact ⟨by simp, 0, rfl⟩
  | true =>
    rw [he] at HE
    obtain ⟨p, q, rfl, rfl, hqp, hpn⟩ := earlier_iff he
    clear he
    simp only [Int.toNat_natCast, if_true]
    have hL := cpl_le most.toNat (b.drop p) (b.drop q)
    have HM := hid (fun k (h : k < cpl most.toNat (b.drop p) (b.drop q)) => cpl_more h)
    have HS := hid (cpl_end (b := b) (p := p) (q := q) (most := most) (by omega) rfl)
    rw [List.length_drop, List.length_drop] at hL
    generalize cpl most.toNat (b.drop p) (b.drop q) = L at *
    go_enter Tryz.func127, Tryz.ntmps127
    go_wp2_with (go_at_call 126; refine HE.out.mono ?_; rintro e w' ⟨rfl, rfl⟩)
    go_loopw [9] (fun i wr => ∃ k m : Nat, k ≤ L ∧ i = .int .i64 k ∧ wr = w.drewN m) (fun i _ => L - (intOf i).toNat)
    case atStart => exact ⟨0, 0, Nat.zero_le _, rfl, rfl⟩
    case round =>
      obtain ⟨k, m, hk, rfl, rfl⟩ := hrel
      have hw1 : IntKind.i64.wrap ((p : Int) + (k : Int)) = ((p + k : Nat) : Int) := by rw [IntKind.wrap_i64]; omega
      have hw2 : IntKind.i64.wrap ((q : Int) + (k : Int)) = ((q + k : Nat) : Int) := by rw [IntKind.wrap_i64]; omega
      have HP := hid (show p + k = p + k ∧ q + k = q + k from ⟨rfl, rfl⟩)
      by_cases hlt : k < L
      · obtain ⟨h1, h2, h3, h4⟩ := HM.out k hlt
        have e2 : b[q + k]? = some (b[p + k]'h2) := by rw [← h4, List.getElem?_eq_getElem h2]
        obtain ⟨bl, off, rfl, _, c1⟩ := HC.out (p + k) (bv (b[p + k]'h2)) (by rw [List.getElem?_map, List.getElem?_eq_getElem h2]; rfl)
        obtain ⟨bl', off', eq, _, c2⟩ := HC.out (q + k) (bv (b[p + k]'h2)) (by rw [List.getElem?_map, e2]; rfl)
        cases eq
        generalize b[p + k]'h2 = x at *
        generalize hpk : p + k = pk at *
        generalize hqk : q + k = qk at *
        have HPK := hid (And.intro hpk hqk)
        have hpI : (pk : Int) < (b.length : Int) := by omega
        have hqI : (qk : Int) < (b.length : Int) := by omega
        unfold bv at c1 c2
        clear h4 e2 hpk hqk
        go_wp2
        go_quiet (fail)
        go_wp2
        go_roundw
        case rel => exact ⟨k + 1, m + nq, hlt, by go_num, rfl⟩
        case measure => simp [intOf]; omega
      · obtain rfl : k = L := by omega
        have h1 := HS.out
        by_cases h0 : (k : Int) < most
        · by_cases h2 : p + k < b.length
          · have h3 : b[p + k]? ≠ b[q + k]? := by
              rcases h1 with h | h | h
              · omega
              · omega
              · exact h
            have h2q : q + k < b.length := by omega
            obtain ⟨bl, off, rfl, _, c1⟩ := HC.out (p + k) (bv (b[p + k]'h2)) (by rw [List.getElem?_map, List.getElem?_eq_getElem h2]; rfl)
            obtain ⟨bl', off', eq, _, c2⟩ := HC.out (q + k) (bv (b[q + k]'h2q)) (by rw [List.getElem?_map, List.getElem?_eq_getElem h2q]; rfl)
            cases eq
            rw [List.getElem?_eq_getElem h2, List.getElem?_eq_getElem h2q] at h3
            have hxy := u8_ne (fun e => h3 (congrArg some e))
            generalize b[p + k]'h2 = x at *
            generalize b[q + k]'h2q = y at *
            generalize hpk : p + k = pk at *
            generalize hqk : q + k = qk at *
            have HPK := hid (And.intro hpk hqk)
            have hpI : (pk : Int) < (b.length : Int) := by omega
            have hqI : (qk : Int) < (b.length : Int) := by omega
            unfold bv at c1 c2
            clear h1 h3 hpk hqk
            go_wp2
            go_quiet (fail)
            go_wp2
            go_ret
            exact ⟨rfl, m + nq, by first | rfl | rw [World.drewN_drewN]⟩
          · have h2I : ¬ ((p + k : Nat) : Int) < (b.length : Int) := by omega
            generalize hpk : p + k = pk at *
            have HPK := hid hpk
            clear hpk h1
            go_wp2
            have hd : decide ((pk : Int) < (b.length : Int)) = false := by simpa using h2I
            go_quiet (fail)
            go_wp2
            go_ret
            exact ⟨rfl, m + nq, by first | rfl | rw [World.drewN_drewN]⟩
        · clear h1
          go_wp2
          have hd : decide ((k : Int) < most) = false := by simpa using h0
          go_quiet (fail)
          go_wp2
          go_ret
          exact ⟨rfl, m + nq, by first | rfl | rw [World.drewN_drewN]⟩
end Go.Proofs.YtiagbejfghincaaGreat
namespace Go.Proofs.YtiagbejfghincaaGreat
open Go.RowKit Go.Port
set_option maxHeartbeats 800000 in
theorem earlier_any (a : Option Addr) (n c : Nat) (pos frm : Int) (w : World) :
    Calls Tryz.prog 149 #[.agg #[.slice a n c], .int .i64 pos, .int .i64 frm] w (RetV w (.bool (earlierB n pos frm))) := by
  have hB := below_new w (.cells #[.slice a n c] 209)
  have HB := hid hB
  clear hB
  unfold earlierB
  by_cases h1 : 0 ≤ frm
  · by_cases h2 : frm < pos
    · go_enter Tryz.func149, Tryz.ntmps149
      go_wp2
      go_ret
      exact ⟨by simp [h1, h2], HB.out⟩
    · go_enter Tryz.func149, Tryz.ntmps149
      go_wp2
      go_ret
      exact ⟨by simp; omega, HB.out⟩
  · go_enter Tryz.func149, Tryz.ntmps149
    go_wp2
    go_ret
    exact ⟨by simp; omega, HB.out⟩
set_option maxRecDepth 100000 in
set_option maxHeartbeats 800000 in
theorem length_any (a : Option Addr) (c p q : Nat) (b : List UInt8) (most : Int) (w : World) (hb : b.length ≤ 1000000) (hbc : b.length ≤ c) (hqp : q < p) (hpn : p ≤ b.length)
    (hc : ∀ j u, (b.map bv)[j]? = some u → ∃ bl off, a = some ⟨bl, off, none⟩ ∧ bl < w.heap.size ∧ w.cell? ⟨bl, off + j, none⟩ = some u) :
    Calls Tryz.prog 150 #[.agg #[.slice a b.length c, .int .i64 (p : Int), .int .i64 most], .int .i64 (q : Int)] w (RetV w (.int .i64 (cpl most.toNat (b.drop p) (b.drop q) : Nat))) := by
  have h0 : 0 < b.length := by omega
  obtain ⟨bl, off, rfl, hlt, _⟩ := hc 0 (bv (b[0]'h0)) (by rw [List.getElem?_map, List.getElem?_eq_getElem h0]; rfl)
  have HC := hid (fun (j : Nat) (hj : j < b.length) => show w.cell? ⟨bl, off + j, none⟩ = some (.int .u8 ((b[j]'hj).toNat : Int)) from by
    obtain ⟨bl', off', e, _, h⟩ := hc j (bv (b[j]'hj)) (by rw [List.getElem?_map, List.getElem?_eq_getElem hj]; rfl)
    cases e
    exact h)
  clear hc
  have hL := cpl_le most.toNat (b.drop p) (b.drop q)
  have HM := hid (fun k (h : k < cpl most.toNat (b.drop p) (b.drop q)) => cpl_more h)
  have HS := hid (cpl_end (b := b) (p := p) (q := q) (most := most) (by omega) rfl)
  rw [List.length_drop, List.length_drop] at hL
  generalize cpl most.toNat (b.drop p) (b.drop q) = L at *
  have hB := below_new w (.cells #[.slice (some ⟨bl, off, none⟩) b.length c, .int .i64 (p : Int), .int .i64 most] 211)
  have HB := hid hB
  have hpI : (p : Int) ≤ (b.length : Int) := by omega
  have hqI : (q : Int) ≤ (b.length : Int) := by omega
  have hbI : (b.length : Int) ≤ (c : Int) := by omega
  have hne : bl ≠ w.heap.size := by omega
  clear hB
  go_enter Tryz.func150, Tryz.ntmps150
  go_wp2
  go_quiet (fail)
  have hA1 : p < b.length → (if b.length = p then (some ⟨bl, off, none⟩ : Option Addr) else some ⟨bl, off + p, none⟩) = some ⟨bl, off + p, none⟩ := fun h => if_neg (by omega)
  generalize (if b.length = p then (some ⟨bl, off, none⟩ : Option Addr) else some ⟨bl, off + p, none⟩) = A1 at *
  have hla : b.length - p + p = b.length := by omega
  have hlb : b.length - q + q = b.length := by omega
  generalize b.length - p = la at *
  generalize b.length - q = lb at *
  have HC1 := hid (fun (j : Nat) (hj : j < b.length) => (HB.out.cell (p := ⟨bl, off + j, none⟩) hlt).trans (HC.out j hj))
  have cP := (Blk.new w [.slice (some ⟨bl, off, none⟩) b.length c, .int .i64 (p : Int), .int .i64 most] 211).cell (k := 2) rfl
  generalize w.alloc (.cells #[.slice (some ⟨bl, off, none⟩) b.length c, .int .i64 (p : Int), .int .i64 most] 211) = W1 at *
  have HBD := hid (fun m => below_drewN HB.out m)
  have HA1 := hid hA1
  clear hA1 hpI hqI hbI hne HB HC
  go_wp2
  go_loopw [8] (fun i wr => ∃ k m : Nat, k ≤ L ∧ i = .int .i64 k ∧ wr = W1.drewN m) (fun i _ => L - (intOf i).toNat)
  case atStart => exact ⟨0, nq, Nat.zero_le _, rfl, rfl⟩
  case round =>
    obtain ⟨k, m, hk, rfl, rfl⟩ := hrel
    by_cases hlt2 : k < L
    · obtain ⟨h1, h2, h3, h4⟩ := HM.out k hlt2
      have e := HA1.out (by omega)
      subst e
      have c1 := HC1.out (p + k) h2
      have c2 := HC1.out (q + k) h3
      rw [List.getElem?_eq_getElem h2, List.getElem?_eq_getElem h3] at h4
      rw [← Option.some.inj h4, ← Nat.add_assoc] at c2
      rw [← Nat.add_assoc] at c1
      generalize b[p + k]'h2 = x at *
      have hkl : (k : Int) < (la : Int) := by omega
      have hkl2 : (k : Int) < (lb : Int) := by omega
      clear h4
      by_cases hml : (la : Int) < most
      · go_wp2
        go_quiet (fail)
        go_wp2
        go_roundw
        case rel => exact ⟨k + 1, m + nq, hlt2, by go_num, rfl⟩
        case measure => simp [intOf]; omega
      · go_wp2
        have hml2 : ¬ (la : Int) < most := by omega
        go_quiet (fail)
        go_wp2
        go_roundw
        case rel => exact ⟨k + 1, m + nq, hlt2, by go_num, rfl⟩
        case measure => simp [intOf]; omega
    · obtain rfl : k = L := by omega
      have h1 := HS.out
      by_cases h0 : (k : Int) < most
      · by_cases h2 : p + k < b.length
        · have h2q : q + k < b.length := by omega
          have h3 : b[p + k]? ≠ b[q + k]? := by
            rcases h1 with h | h | h
            · omega
            · omega
            · exact h
          have e := HA1.out (by omega)
          subst e
          have c1 := HC1.out (p + k) h2
          have c2 := HC1.out (q + k) h2q
          rw [List.getElem?_eq_getElem h2, List.getElem?_eq_getElem h2q] at h3
          have hxy := u8_ne (fun e => h3 (congrArg some e))
          rw [← Nat.add_assoc] at c1 c2
          generalize b[p + k]'h2 = x at *
          generalize b[q + k]'h2q = y at *
          have hkl : (k : Int) < (la : Int) := by omega
          have hkl2 : (k : Int) < (lb : Int) := by omega
          clear h3 h1
          by_cases hml : (la : Int) < most
          · go_wp2
            go_quiet (fail)
            go_wp2
            go_ret
            exact ⟨rfl, by first | exact HBD.out _ | exact below_drewN (HBD.out _) _⟩
          · go_wp2
            have hml2 : ¬ (la : Int) < most := by omega
            go_quiet (fail)
            go_wp2
            go_ret
            exact ⟨rfl, by first | exact HBD.out _ | exact below_drewN (HBD.out _) _⟩
        · have hml : (la : Int) < most := by omega
          clear h1
          go_wp2
          have hd : decide ((k : Int) < (la : Int)) = false := decide_eq_false (by omega)
          have hd2 : decide (k < la) = false := decide_eq_false (by omega)
          go_quiet (fail)
          go_wp2
          go_ret
          exact ⟨rfl, by first | exact HBD.out _ | exact below_drewN (HBD.out _) _⟩
      · clear h1
        go_wp2
        have hml2 : ¬ (la : Int) < most := by omega
        have hd : decide ((k : Int) < most) = false := decide_eq_false (by omega)
        go_quiet (fail)
        go_wp2
        go_ret
        exact ⟨rfl, by first | exact HBD.out _ | exact below_drewN (HBD.out _) _⟩
end Go.Proofs.YtiagbejfghincaaGreat
namespace Go.Port
open Go.RowKit
/-- A sequence's cells. -/
def sqc (s : Sq) : List Value := [.int .i64 s.lit, .int .i64 s.len, .int .i64 s.off]
theorem sqc_length (l : List Sq) : (l.flatMap sqc).length = l.length * 3 := by
  induction l with
  | nil => rfl
  | cons x r ih => simp only [List.flatMap_cons, List.length_append, ih, List.length_cons, sqc, List.length_nil]; omega
theorem matchesS_length (b : List UInt8) (pos most : Int) (l : List Int) : (matchesS b pos most l).length ≤ l.length := by
  induction l with
  | nil => exact Nat.le_refl _
  | cons x r ih =>
    unfold matchesS
    split <;> simp <;> omega
theorem lenS_le (b : List UInt8) (pos frm most : Int) : lenS b pos frm most ≤ b.length := by
  unfold lenS
  split
  · have := (cpl_le most.toNat (b.drop pos.toNat) (b.drop frm.toNat)).2.1
    rw [List.length_drop] at this
    omega
  · omega
end Go.Port
namespace Go.Proofs.YtiagbejfghincaaGreat
open Go.RowKit Go.Port
theorem Tryz.info_seq : (Tryz.prog.info? 44).map (fun i => (i.zero, i.size, i.bytes)) = some (some (.agg #[.int .i64 0, .int .i64 0, .int .i64 0]), 3, 24) := by kernel_rfl
set_option maxRecDepth 100000 in
set_option maxHeartbeats 2000000 in
theorem matches_any (a a2 : Option Addr) (c c2 : Nat) (b : List UInt8) (pos most : Int) (frm : List Int) (w : World) (hb : b.length ≤ 1000000) (hbc : b.length ≤ c) (hf : frm.length ≤ 100000)
    (hc : ∀ j u, (b.map bv)[j]? = some u → ∃ bl off, a = some ⟨bl, off, none⟩ ∧ bl < w.heap.size ∧ w.cell? ⟨bl, off + j, none⟩ = some u)
    (hc2 : ∀ j u, (frm.map iv)[j]? = some u → ∃ bl off, a2 = some ⟨bl, off, none⟩ ∧ bl < w.heap.size ∧ w.cell? ⟨bl, off + j, none⟩ = some u) :
    Calls Tryz.prog 128 #[.slice a b.length c, .int .i64 pos, .int .i64 most, .slice a2 frm.length c2] w fun e w' => ∃ v, e = .returned v ∧ w'.ownsRow (w.heap.size + 1) 44 3 v (matchesS b pos most frm).length ((matchesS b pos most frm).flatMap sqc) ∧ Below w.heap.size w w' := by
  have HC := hid (fun W (hW : Below w.heap.size w W) j u (hu : (b.map bv)[j]? = some u) => (show ∃ bl off, a = some ⟨bl, off, none⟩ ∧ bl < W.heap.size ∧ W.cell? ⟨bl, off + j, none⟩ = some u from by
    obtain ⟨bl, off, h1, h2, h3⟩ := hc j u hu
    exact ⟨bl, off, h1, Nat.lt_of_lt_of_le h2 hW.size, (hW.cell (p := ⟨bl, off + j, none⟩) h2).trans h3⟩))
  have HC2 := hid (fun W (hW : Below w.heap.size w W) j u (hu : (frm.map iv)[j]? = some u) => (show ∃ bl off, a2 = some ⟨bl, off, none⟩ ∧ bl < W.heap.size ∧ W.cell? ⟨bl, off + j, none⟩ = some u from by
    obtain ⟨bl, off, h1, h2, h3⟩ := hc2 j u hu
    exact ⟨bl, off, h1, Nat.lt_of_lt_of_le h2 hW.size, (hW.cell (p := ⟨bl, off + j, none⟩) h2).trans h3⟩))
  clear hc hc2
  have hB := below_new w (.cells #[.slice a b.length c, .int .i64 pos, .int .i64 most] 211)
  have hP := Blk.new w [.slice a b.length c, .int .i64 pos, .int .i64 most] 211
  have HB := hid hB
  have HPl := hid hP
  clear hB hP
  go_enter Tryz.func128, Tryz.ntmps128
  go_wp2
  go_loopw [8, 19] (fun v i wr => ∃ k : Nat, k ≤ frm.length ∧ i = .int .i64 k ∧ wr.ownsRow (w.heap.size + 1) 44 3 v (matchesS b pos most (frm.take k)).length ((matchesS b pos most (frm.take k)).flatMap sqc) ∧ Blk wr w.heap.size [.slice a b.length c, .int .i64 pos, .int .i64 most] 211 ∧ Below w.heap.size w wr) (fun _ i _ => frm.length - (intOf i).toNat)
  case atStart => exact ⟨0, Nat.zero_le _, rfl, World.ownsRow_nil _ _ _ _, HPl.out, HB.out⟩
  case round =>
    obtain ⟨k, hk, rfl, hown, hPr, hBr⟩ := hrel
    by_cases hlt : k < frm.length
    · obtain ⟨x, hx⟩ : ∃ x, frm[k]? = some x := ⟨frm[k], by simp [hlt]⟩
      obtain ⟨bl2, off2, rfl, _, hcx⟩ := HC2.out wr hBr k (iv x) (by rw [List.getElem?_map, hx]; rfl)
      have hst : matchesS b pos most (frm.take (k + 1)) = matchesS b pos most (frm.take k) ++ matchesS b pos most [x] := by
        obtain ⟨h1, h2⟩ := List.getElem?_eq_some_iff.1 hx
        rw [List.take_succ_eq_append_getElem h1, h2, matchesS_append]
      have HST := hid hst
      have HE := hid (earlier_any a b.length c pos x wr)
      have c0 := hPr.cell (k := 0) rfl
      have HO := hid hown
      have HPr := hid hPr
      have HBr := hid hBr
      have hszw : w.heap.size + 1 ≤ wr.heap.size := hPr.lt
      unfold iv at hcx
      clear hst hown hPr hBr hx
      cases he : earlierB b.length pos x with
      | false =>
        rw [he] at HE
        have HM := hid (show matchesS b pos most [x] = [] from by unfold matchesS; rw [he]; rfl)
        clear he
        go_wp2_with fail
        refine HE.out.mono ?_
        rintro e w1 ⟨rfl, hb1⟩
        have HB1 := hid hb1
        clear hb1
        go_wp2
        go_roundw
        case rel =>
          refine ⟨k + 1, hlt, by go_num, ?_, HPr.out.below HB1.out HPr.out.lt, HBr.out.trans (HB1.out.mono HBr.out.size)⟩
          rw [HST.out, HM.out, List.append_nil]
          exact own_low HO.out HB1.out
        case measure => simp [intOf]; omega
      | true =>
        rw [he] at HE
        have hM : matchesS b pos most [x] = [⟨0, (lenS b pos x most : Nat), pos - x⟩] := by unfold matchesS; rw [he]; rfl
        have hll := lenS_le b pos x most
        have hml := matchesS_length b pos most (frm.take k)
        obtain ⟨p, q, rfl, rfl, hqp, hpn⟩ := earlier_iff he
        have hlS : lenS b (p : Int) (q : Int) most = cpl most.toNat (b.drop p) (b.drop q) := by unfold lenS; rw [he]; rfl
        rw [hlS] at hM hll
        rw [List.length_take] at hml
        have hw1 : IntKind.i64.wrap ((p : Int) - (q : Int)) = (p : Int) - (q : Int) := by rw [IntKind.wrap_i64]; omega
        have HM := hid hM
        clear he hM hlS
        go_wp2_with fail
        refine HE.out.mono ?_
        rintro e w1 ⟨rfl, hb1⟩
        have hbl := HPr.out.below hb1 HPr.out.lt
        have HB1 := hid (HBr.out.trans (hb1.mono HBr.out.size))
        have HO1 := hid (own_low HO.out hb1)
        have d0 := hbl.cell (k := 0) rfl
        have d1 := hbl.cell (k := 1) rfl
        have d2 := hbl.cell (k := 2) rfl
        have HL := hid (length_any a c p q b most w1 hb hbc hqp hpn (HC.out w1 HB1.out))
        have HPb := hid hbl
        clear hb1 hbl
        go_wp2_with fail
        refine HL.out.mono ?_
        rintro e w2 ⟨rfl, hb2⟩
        have HB2 := hid (HB1.out.trans (hb2.mono HB1.out.size))
        have HO2 := hid (own_low HO1.out hb2)
        have HP2 := hid (HPb.out.below hb2 HPb.out.lt)
        obtain ⟨av, cv, rfl⟩ := own_slice HO2.out
        have hsz2 : w.heap.size + 1 ≤ w2.heap.size := HP2.out.lt
        clear hb2
        go_wp2_with (at_builtin; refine Hid.out ?_)
        refine hid ?_
        refine wpList_append1 rfl _ _ 38 rfl 44 _ 3 24 Tryz.underlying38 Tryz.info_seq rfl (by decide) (by decide) _ (w.heap.size + 1) _ _ _ [.int .i64 0, .int .i64 ((cpl most.toNat (b.drop p) (b.drop q) : Nat) : Int), .int .i64 ((p : Int) - (q : Int))] rfl ?hu rfl rfl (by exact HO2.out) ?hn ?hb ?hk
        case hu => simp [Value.oneCell']
        case hn => omega
        case hb => exact hsz2
        case hk =>
          intro v' w3 hown' hg
          have hbg := below_grown HO2.out hg hsz2
          have HB3 := hid (HB2.out.trans (hbg.mono (Nat.le_succ _)))
          have HP3 := hid (HP2.out.below hbg (Nat.lt_succ_self _))
          have HO3 := hid hown'
          clear hown' hg hbg
          go_wp2
          go_roundw
          case rel =>
            refine ⟨k + 1, hlt, by go_num, ?_, HP3.out, HB3.out⟩
            have h3 := HO3.out
            rw [HST.out, HM.out, List.length_append, List.flatMap_append]
            exact h3
          case measure => simp [intOf]; omega
    · obtain rfl : k = frm.length := by omega
      rw [List.take_of_length_le (Nat.le_refl _)] at hown
      have HO := hid hown
      have HBr := hid hBr
      clear hown hPr hBr
      go_wp2
      go_ret
      exact ⟨_, rfl, HO.out, HBr.out⟩
end Go.Proofs.YtiagbejfghincaaGreat
namespace Go.Port
open Go.RowKit
def sqv (s : Sq) : Value := .agg #[.int .i64 s.lit, .int .i64 s.len, .int .i64 s.off]
theorem sqc_get {l : List Sq} {k : Nat} {x : Sq} (h : l[k]? = some x) (j : Nat) (hj : j < 3) : (l.flatMap sqc)[k * 3 + j]? = (sqc x)[j]? := by
  obtain ⟨h1, rfl⟩ := List.getElem?_eq_some_iff.1 h
  have e : l = l.take k ++ l[k] :: l.drop (k + 1) := by rw [← List.drop_eq_getElem_cons h1, List.take_append_drop]
  have hl : ((l.take k).flatMap sqc).length = k * 3 := by rw [sqc_length, List.length_take, Nat.min_eq_left (Nat.le_of_lt h1)]
  have e2 : l.flatMap sqc = (l.take k).flatMap sqc ++ (sqc l[k] ++ (l.drop (k + 1)).flatMap sqc) := by
    conv => lhs; rw [e]
    rw [List.flatMap_append, List.flatMap_cons]
  rw [e2, List.getElem?_append_right (by omega), hl, Nat.add_sub_cancel_left, List.getElem?_append_left (by simp [sqc]; omega)]
end Go.Port
namespace Go.Proofs.YtiagbejfghincaaGreat
open Go.RowKit Go.Port
end Go.Proofs.YtiagbejfghincaaGreat
namespace Go.Proofs.YtiagbejfghincaaGreat
open Go.RowKit Go.Port
end Go.Proofs.YtiagbejfghincaaGreat
