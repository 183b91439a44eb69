/-
  The walks of layer 28, third part: the program's length before two positions.
-/
import Derived.Test.YtaoiaiddamnbiaaMatchB
import Derived.ScopeJumps
namespace Go.Proofs.Ytaoiaiddamnbiaa
open Go.RowKit Go.Port

set_option maxRecDepth 100000 in
set_option maxHeartbeats 1600000 in
theorem lenb_no (a : Option Addr) (c : Nat) (b : List UInt8) (pos frm least : Int) (w : World) (he : earlierB b.length pos frm = false) :
    Calls Try.prog 14 #[.slice a b.length c, .int .i64 pos, .int .i64 frm, .int .i64 least] w (RetV w (.int .i64 0)) := by
  have HE := hid (earlier_any a b.length c pos frm w)
  rw [he] at HE
  clear he
  go_enter Try.func14, Try.ntmps14
  go_wp2_with fail
  refine wp_scope_jumps 0 (fun a' w' => ∃ x0 x1 x2 x3 x4 x5 x6 x7 x8 x9 x10 x11 x12 x13 x14 x15 x16 x17 x18 x19 x20 x21 x22 x23 x24 x25 x26 x27 x28 x29 x30 x31 x32 x33 x34 x35 x36 x37 x38 x39 x40 x41 x42 x43 x44 x45 x46 : Value, a' = { tmps := #[x0, x1, x2, x3, x4, x5, x6, x7, x8, x9, x10, x11, x12, x13, x14, x15, x16, x17, x18, x19, x20, x21, x22, x23, x24, x25, x26, x27, x28, x29, x30, x31, x32, x33, x34, x35, x36, x37, x38, x39, x40, x41, x42, x43, x44, x45, x46], defers := [] } ∧ Below w.heap.size w w') (fun _ _ => 0) rfl ?first ?pass
  case first =>
    go_wp2_with fail
    refine HE.out.mono ?_
    rintro e w1 ⟨rfl, hb1⟩
    have HB1 := hid hb1
    clear hb1
    go_wp2
    refine wp_goto ?_
    refine And.intro (rfl : 0 = 0) ?_
    repeat apply Exists.intro
    exact ⟨rfl, HB1.out⟩
  case pass =>
    rintro a1 w1 ⟨x0, x1, x2, x3, x4, x5, x6, x7, x8, x9, x10, x11, x12, x13, x14, x15, x16, x17, x18, x19, x20, x21, x22, x23, x24, x25, x26, x27, x28, x29, x30, x31, x32, x33, x34, x35, x36, x37, x38, x39, x40, x41, x42, x43, x44, x45, x46, rfl, hb⟩
    have HB := hid hb
    clear hb
    go_wp2
    simp only [Exit.jump]
    go_ret
    exact ⟨rfl, HB.out⟩

set_option maxRecDepth 100000 in
set_option maxHeartbeats 800000 in
theorem lenb_pos (a : Option Addr) (c : Nat) (b : List UInt8) (pos frm least : Int) (w : World) (hl : 0 < least) (hb : b.length ≤ 1000000) (he : earlierB b.length pos frm = true)
    (hc : ∀ j u, (b.map bv)[j]? = some u → ∃ bl off, a = some ⟨bl, off, none⟩ ∧ bl < w.heap.size ∧ w.cell? ⟨bl, off + j, none⟩ = some u) :
    Calls Try.prog 14 #[.slice a b.length c, .int .i64 pos, .int .i64 frm, .int .i64 least] w (RetV w (.int .i64 (backS b pos frm least : Nat))) := by
  have HC := hid hc
  clear hc
  have HE := hid (earlier_any a b.length c pos frm w)
  unfold backS
  rw [he, if_pos rfl]
  rw [he] at HE
  obtain ⟨p, q, rfl, rfl, hqp, hpn⟩ := earlier_iff he
  clear he
  simp only [Int.toNat_natCast]
  have hF : ((((p : Int) - max 0 least).toNat : Nat) : Int) = max 0 ((p : Int) - max 0 least) := by omega
  generalize ((p : Int) - max 0 least).toNat = F at *
  have hM : max 0 least = least := by omega
  rw [hM] at hF
  clear hM
  have HM := hid (fun k (h : k < cpl F (b.take p).reverse (b.take q).reverse) => back_more hpn (by omega) h)
  have HS := hid (back_end (b := b) (p := p) (q := q) (F := F) hpn (by omega) rfl)
  have hL := cpl_le F (b.take p).reverse (b.take q).reverse
  have l2 : (b.take q).length = q := by rw [List.length_take]; omega
  rw [List.length_reverse, List.length_reverse, l2] at hL
  generalize cpl F (b.take p).reverse (b.take q).reverse = L at *
  obtain ⟨hL1, _, hL2⟩ := hL
  clear l2
  go_enter Try.func14, Try.ntmps14
  go_wp2_with fail
  refine wp_scope_straight ?_
  go_wp2_with fail
  refine HE.out.mono ?_
  rintro e w1 ⟨rfl, hb1⟩
  have HC := hid (fun j u (hu : (b.map bv)[j]? = some u) => (show ∃ bl off, a = some ⟨bl, off, none⟩ ∧ bl < w1.heap.size ∧ w1.cell? ⟨bl, off + j, none⟩ = some u from by
    obtain ⟨bl, off, h1, h2, h3⟩ := HC.out j u hu
    exact ⟨bl, off, h1, Nat.lt_of_lt_of_le h2 hb1.size, (hb1.cell (p := ⟨bl, off + j, none⟩) h2).trans h3⟩))
  have HB1 := hid hb1
  clear hb1
  go_wp2
  go_loopw [8] (fun i wr => ∃ k m : Nat, k ≤ L ∧ i = .int .i64 k ∧ wr = w1.drewN m) (fun i _ => L - (intOf i).toNat)
  case atStart => exact ⟨0, 0, Nat.zero_le _, rfl, rfl⟩
  case round =>
    obtain ⟨k, m, hk, rfl, rfl⟩ := hrel
    obtain ⟨pk, hpk⟩ : ∃ pk : Nat, p = pk + k := ⟨p - k, by omega⟩
    obtain ⟨qk, hqk⟩ : ∃ qk : Nat, q = qk + k := ⟨q - k, by omega⟩
    have hw1 : IntKind.i64.wrap ((p : Int) - (k : Int)) = (pk : Int) := by rw [IntKind.wrap_i64]; omega
    have hw2 : IntKind.i64.wrap ((q : Int) - (k : Int)) = (qk : Int) := by rw [IntKind.wrap_i64]; omega
    have hmF : least < (pk : Int) ↔ k < F := by omega
    by_cases hlt : k < L
    · obtain ⟨h1, h2, h3, h4⟩ := HM.out k hlt
      obtain ⟨pj, hpj⟩ : ∃ pj : Nat, pk = pj + 1 := ⟨pk - 1, by omega⟩
      obtain ⟨qj, hqj⟩ : ∃ qj : Nat, qk = qj + 1 := ⟨qk - 1, by omega⟩
      have hw3 : IntKind.i64.wrap ((pk : Int) - 1) = (pj : Int) := by rw [IntKind.wrap_i64]; omega
      have hw4 : IntKind.i64.wrap ((qk : Int) - 1) = (qj : Int) := by rw [IntKind.wrap_i64]; omega
      rw [show p - 1 - k = pj from by omega, show q - 1 - k = qj from by omega] at h4
      have h2' : pj < b.length := by omega
      have e2 : b[qj]? = some (b[pj]'h2') := by rw [← h4, List.getElem?_eq_getElem h2']
      obtain ⟨bl, off, rfl, _, c1⟩ := HC.out pj (bv (b[pj]'h2')) (by rw [List.getElem?_map, List.getElem?_eq_getElem h2']; rfl)
      obtain ⟨bl', off', eq, _, c2⟩ := HC.out qj (bv (b[pj]'h2')) (by rw [List.getElem?_map, e2]; rfl)
      cases eq
      generalize b[pj]'h2' = x at *
      have hmx := hmF.2 h1
      have hq0 : (0 : Int) < (qk : Int) := by omega
      have hpI : (pj : Int) < (b.length : Int) := by omega
      have hqI : (qj : Int) < (b.length : Int) := by omega
      unfold bv at c1 c2
      have HPK := hid (And.intro hpk (And.intro hqk (And.intro hpj hqj)))
      clear h4 e2 hmF hpk hqk hpj hqj
      go_wp2
      have hg1 : decide (0 < qk) = true := decide_eq_true (by omega)
      go_quiet (fail)
      go_wp2
      go_roundw
      case rel => exact ⟨k + 1, m + nq, hlt, by go_num, rfl⟩
      case measure => simp [intOf]; omega
    · obtain rfl : k = L := by omega
      have h1 := HS.out
      by_cases h0 : k < F
      · have hmx := hmF.2 h0
        by_cases h2 : k < q
        · have h3 : b[p - 1 - k]? ≠ b[q - 1 - k]? := by
            rcases h1 with h | h | h
            · omega
            · omega
            · exact h
          obtain ⟨pj, hpj⟩ : ∃ pj : Nat, pk = pj + 1 := ⟨pk - 1, by omega⟩
          obtain ⟨qj, hqj⟩ : ∃ qj : Nat, qk = qj + 1 := ⟨qk - 1, by omega⟩
          have hw3 : IntKind.i64.wrap ((pk : Int) - 1) = (pj : Int) := by rw [IntKind.wrap_i64]; omega
          have hw4 : IntKind.i64.wrap ((qk : Int) - 1) = (qj : Int) := by rw [IntKind.wrap_i64]; omega
          rw [show p - 1 - k = pj from by omega, show q - 1 - k = qj from by omega] at h3
          have h2p : pj < b.length := by omega
          have h2q : qj < b.length := by omega
          obtain ⟨bl, off, rfl, _, c1⟩ := HC.out pj (bv (b[pj]'h2p)) (by rw [List.getElem?_map, List.getElem?_eq_getElem h2p]; rfl)
          obtain ⟨bl', off', eq, _, c2⟩ := HC.out qj (bv (b[qj]'h2q)) (by rw [List.getElem?_map, List.getElem?_eq_getElem h2q]; rfl)
          cases eq
          rw [List.getElem?_eq_getElem h2p, List.getElem?_eq_getElem h2q] at h3
          have hxy := u8_ne (fun e => h3 (congrArg some e))
          generalize b[pj]'h2p = x at *
          generalize b[qj]'h2q = y at *
          have hq0 : (0 : Int) < (qk : Int) := by omega
          have hpI : (pj : Int) < (b.length : Int) := by omega
          have hqI : (qj : Int) < (b.length : Int) := by omega
          unfold bv at c1 c2
          have HPK := hid (And.intro hpk (And.intro hqk (And.intro hpj hqj)))
          clear h1 h3 hmF hpk hqk hpj hqj
          go_wp2
          have hg1 : decide (0 < qk) = true := decide_eq_true (by omega)
          go_quiet (fail)
          go_wp2
          try simp only [Exit.noGoto_ret]
          go_ret
          exact ⟨rfl, by first | exact below_drewN HB1.out _ | exact below_drewN (below_drewN HB1.out _) _⟩
        · have hq0 : qk = 0 := by omega
          subst hq0
          clear h1 hmF
          go_wp2
          go_quiet (fail)
          go_wp2
          try simp only [Exit.noGoto_ret]
          go_ret
          exact ⟨rfl, by first | exact below_drewN HB1.out _ | exact below_drewN (below_drewN HB1.out _) _⟩
      · have hmx : ¬ least < (pk : Int) := fun h => h0 (hmF.1 h)
        clear h1 hmF
        go_wp2
        have hd : decide (least < (pk : Int)) = false := by simpa using hmx
        go_quiet (fail)
        go_wp2
        try simp only [Exit.noGoto_ret]
        go_ret
        exact ⟨rfl, by first | exact below_drewN HB1.out _ | exact below_drewN (below_drewN HB1.out _) _⟩

set_option maxRecDepth 100000 in
set_option maxHeartbeats 800000 in
theorem lenb_neg (a : Option Addr) (c : Nat) (b : List UInt8) (pos frm least : Int) (w : World) (hl : least ≤ 0) (hb : b.length ≤ 1000000) (he : earlierB b.length pos frm = true)
    (hc : ∀ j u, (b.map bv)[j]? = some u → ∃ bl off, a = some ⟨bl, off, none⟩ ∧ bl < w.heap.size ∧ w.cell? ⟨bl, off + j, none⟩ = some u) :
    Calls Try.prog 14 #[.slice a b.length c, .int .i64 pos, .int .i64 frm, .int .i64 least] w (RetV w (.int .i64 (backS b pos frm least : Nat))) := by
  have HC := hid hc
  clear hc
  have HE := hid (earlier_any a b.length c pos frm w)
  unfold backS
  rw [he, if_pos rfl]
  rw [he] at HE
  obtain ⟨p, q, rfl, rfl, hqp, hpn⟩ := earlier_iff he
  clear he
  simp only [Int.toNat_natCast]
  have hF : ((((p : Int) - max 0 least).toNat : Nat) : Int) = max 0 ((p : Int) - max 0 least) := by omega
  generalize ((p : Int) - max 0 least).toNat = F at *
  have hM : max 0 least = 0 := by omega
  rw [hM] at hF
  clear hM
  have HM := hid (fun k (h : k < cpl F (b.take p).reverse (b.take q).reverse) => back_more hpn (by omega) h)
  have HS := hid (back_end (b := b) (p := p) (q := q) (F := F) hpn (by omega) rfl)
  have hL := cpl_le F (b.take p).reverse (b.take q).reverse
  have l2 : (b.take q).length = q := by rw [List.length_take]; omega
  rw [List.length_reverse, List.length_reverse, l2] at hL
  generalize cpl F (b.take p).reverse (b.take q).reverse = L at *
  obtain ⟨hL1, _, hL2⟩ := hL
  clear l2
  go_enter Try.func14, Try.ntmps14
  go_wp2_with fail
  refine wp_scope_straight ?_
  go_wp2_with fail
  refine HE.out.mono ?_
  rintro e w1 ⟨rfl, hb1⟩
  have HC := hid (fun j u (hu : (b.map bv)[j]? = some u) => (show ∃ bl off, a = some ⟨bl, off, none⟩ ∧ bl < w1.heap.size ∧ w1.cell? ⟨bl, off + j, none⟩ = some u from by
    obtain ⟨bl, off, h1, h2, h3⟩ := HC.out j u hu
    exact ⟨bl, off, h1, Nat.lt_of_lt_of_le h2 hb1.size, (hb1.cell (p := ⟨bl, off + j, none⟩) h2).trans h3⟩))
  have HB1 := hid hb1
  clear hb1
  go_wp2
  go_loopw [8] (fun i wr => ∃ k m : Nat, k ≤ L ∧ i = .int .i64 k ∧ wr = w1.drewN m) (fun i _ => L - (intOf i).toNat)
  case atStart => exact ⟨0, 0, Nat.zero_le _, rfl, rfl⟩
  case round =>
    obtain ⟨k, m, hk, rfl, rfl⟩ := hrel
    obtain ⟨pk, hpk⟩ : ∃ pk : Nat, p = pk + k := ⟨p - k, by omega⟩
    obtain ⟨qk, hqk⟩ : ∃ qk : Nat, q = qk + k := ⟨q - k, by omega⟩
    have hw1 : IntKind.i64.wrap ((p : Int) - (k : Int)) = (pk : Int) := by rw [IntKind.wrap_i64]; omega
    have hw2 : IntKind.i64.wrap ((q : Int) - (k : Int)) = (qk : Int) := by rw [IntKind.wrap_i64]; omega
    have hmF : 0 < (pk : Int) ↔ k < F := by omega
    by_cases hlt : k < L
    · obtain ⟨h1, h2, h3, h4⟩ := HM.out k hlt
      obtain ⟨pj, hpj⟩ : ∃ pj : Nat, pk = pj + 1 := ⟨pk - 1, by omega⟩
      obtain ⟨qj, hqj⟩ : ∃ qj : Nat, qk = qj + 1 := ⟨qk - 1, by omega⟩
      have hw3 : IntKind.i64.wrap ((pk : Int) - 1) = (pj : Int) := by rw [IntKind.wrap_i64]; omega
      have hw4 : IntKind.i64.wrap ((qk : Int) - 1) = (qj : Int) := by rw [IntKind.wrap_i64]; omega
      rw [show p - 1 - k = pj from by omega, show q - 1 - k = qj from by omega] at h4
      have h2' : pj < b.length := by omega
      have e2 : b[qj]? = some (b[pj]'h2') := by rw [← h4, List.getElem?_eq_getElem h2']
      obtain ⟨bl, off, rfl, _, c1⟩ := HC.out pj (bv (b[pj]'h2')) (by rw [List.getElem?_map, List.getElem?_eq_getElem h2']; rfl)
      obtain ⟨bl', off', eq, _, c2⟩ := HC.out qj (bv (b[pj]'h2')) (by rw [List.getElem?_map, e2]; rfl)
      cases eq
      generalize b[pj]'h2' = x at *
      have hmx := hmF.2 h1
      have hq0 : (0 : Int) < (qk : Int) := by omega
      have hpI : (pj : Int) < (b.length : Int) := by omega
      have hqI : (qj : Int) < (b.length : Int) := by omega
      unfold bv at c1 c2
      have HPK := hid (And.intro hpk (And.intro hqk (And.intro hpj hqj)))
      clear h4 e2 hmF hpk hqk hpj hqj
      go_wp2
      have hl2 : ¬ (0 : Int) < least := by omega
      have hg1 : decide (0 < qk) = true := decide_eq_true (by omega)
      have hg0 : decide (0 < pk) = true := decide_eq_true (by omega)
      go_quiet (fail)
      go_wp2
      go_roundw
      case rel => exact ⟨k + 1, m + nq, hlt, by go_num, rfl⟩
      case measure => simp [intOf]; omega
    · obtain rfl : k = L := by omega
      have h1 := HS.out
      by_cases h0 : k < F
      · have hmx := hmF.2 h0
        by_cases h2 : k < q
        · have h3 : b[p - 1 - k]? ≠ b[q - 1 - k]? := by
            rcases h1 with h | h | h
            · omega
            · omega
            · exact h
          obtain ⟨pj, hpj⟩ : ∃ pj : Nat, pk = pj + 1 := ⟨pk - 1, by omega⟩
          obtain ⟨qj, hqj⟩ : ∃ qj : Nat, qk = qj + 1 := ⟨qk - 1, by omega⟩
          have hw3 : IntKind.i64.wrap ((pk : Int) - 1) = (pj : Int) := by rw [IntKind.wrap_i64]; omega
          have hw4 : IntKind.i64.wrap ((qk : Int) - 1) = (qj : Int) := by rw [IntKind.wrap_i64]; omega
          rw [show p - 1 - k = pj from by omega, show q - 1 - k = qj from by omega] at h3
          have h2p : pj < b.length := by omega
          have h2q : qj < b.length := by omega
          obtain ⟨bl, off, rfl, _, c1⟩ := HC.out pj (bv (b[pj]'h2p)) (by rw [List.getElem?_map, List.getElem?_eq_getElem h2p]; rfl)
          obtain ⟨bl', off', eq, _, c2⟩ := HC.out qj (bv (b[qj]'h2q)) (by rw [List.getElem?_map, List.getElem?_eq_getElem h2q]; rfl)
          cases eq
          rw [List.getElem?_eq_getElem h2p, List.getElem?_eq_getElem h2q] at h3
          have hxy := u8_ne (fun e => h3 (congrArg some e))
          generalize b[pj]'h2p = x at *
          generalize b[qj]'h2q = y at *
          have hq0 : (0 : Int) < (qk : Int) := by omega
          have hpI : (pj : Int) < (b.length : Int) := by omega
          have hqI : (qj : Int) < (b.length : Int) := by omega
          unfold bv at c1 c2
          have HPK := hid (And.intro hpk (And.intro hqk (And.intro hpj hqj)))
          clear h1 h3 hmF hpk hqk hpj hqj
          go_wp2
          have hl2 : ¬ (0 : Int) < least := by omega
          have hg1 : decide (0 < qk) = true := decide_eq_true (by omega)
          have hg0 : decide (0 < pk) = true := decide_eq_true (by omega)
          go_quiet (fail)
          go_wp2
          try simp only [Exit.noGoto_ret]
          go_ret
          exact ⟨rfl, by first | exact below_drewN HB1.out _ | exact below_drewN (below_drewN HB1.out _) _⟩
        · have hq0 : qk = 0 := by omega
          subst hq0
          clear h1 hmF
          go_wp2
          have hl2 : ¬ (0 : Int) < least := by omega
          have hg0 : decide (0 < pk) = true := decide_eq_true (by omega)
          go_quiet (fail)
          go_wp2
          try simp only [Exit.noGoto_ret]
          go_ret
          exact ⟨rfl, by first | exact below_drewN HB1.out _ | exact below_drewN (below_drewN HB1.out _) _⟩
      · have hmx : ¬ 0 < (pk : Int) := fun h => h0 (hmF.1 h)
        clear h1 hmF
        go_wp2
        have hd : decide (0 < (pk : Int)) = false := by simpa using hmx
        have hl2 : ¬ (0 : Int) < least := by omega
        have hg0 : decide (0 < pk) = false := decide_eq_false (by omega)
        go_quiet (fail)
        go_wp2
        try simp only [Exit.noGoto_ret]
        go_ret
        exact ⟨rfl, by first | exact below_drewN HB1.out _ | exact below_drewN (below_drewN HB1.out _) _⟩

theorem lenb_any (a : Option Addr) (c : Nat) (b : List UInt8) (pos frm least : Int) (w : World) (hb : b.length ≤ 1000000)
    (hc : ∀ j u, (b.map bv)[j]? = some u → ∃ bl off, a = some ⟨bl, off, none⟩ ∧ bl < w.heap.size ∧ w.cell? ⟨bl, off + j, none⟩ = some u) :
    Calls Try.prog 14 #[.slice a b.length c, .int .i64 pos, .int .i64 frm, .int .i64 least] w (RetV w (.int .i64 (backS b pos frm least : Nat))) := by
  cases he : earlierB b.length pos frm with
  | false =>
    have e : backS b pos frm least = 0 := by unfold backS; rw [he]; rfl
    rw [e]
    exact lenb_no a c b pos frm least w he
  | true =>
    by_cases hl : 0 < least
    · exact lenb_pos a c b pos frm least w hl hb he hc
    · exact lenb_neg a c b pos frm least w (by omega) hb he hc

end Go.Proofs.Ytaoiaiddamnbiaa
