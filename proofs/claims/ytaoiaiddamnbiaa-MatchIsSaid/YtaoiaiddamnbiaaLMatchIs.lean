/-
  The law MatchIs: for at most 300 bytes, any position, at most 60 candidates, the bytes of the best match equal those at its offset and the next byte differs. No condition.
-/
import Derived.Test.YtaoiaiddamnbiaaMatchM
namespace Go.Port
open Go.RowKit
theorem firstGo_mem (f : Sq → Sq → Bool) (l : List Sq) : ∀ (o : Option Sq) (s : Sq), firstGo f o l = some s → o = some s ∨ s ∈ l := by
  induction l with
  | nil => intro o s h; cases o <;> exact .inl h
  | cons x l ih =>
    intro o s h
    cases o with
    | none =>
      rcases ih _ _ h with h1 | h1
      · cases h1; exact .inr (by simp)
      · exact .inr (by simp [h1])
    | some y =>
      rcases ih _ _ h with h1 | h1
      · split at h1
        · cases h1; exact .inr (by simp)
        · exact .inl h1
      · exact .inr (by simp [h1])
theorem bestS_mem {b : List UInt8} {pos most : Int} {frm : List Int} {s : Sq} (h : bestS b pos most frm = some s) : s ∈ matchesS b pos most frm ∧ 3 ≤ s.len := by
  unfold bestS at h
  cases hf : firstGo aheadB none (matchesS b pos most frm) with
  | none => rw [hf] at h; cases h
  | some t =>
    rw [hf] at h
    dsimp only at h
    split at h
    · cases h
    · cases h
      rcases firstGo_mem _ _ _ _ hf with h1 | h1
      · cases h1
      · exact ⟨h1, by omega⟩
theorem bestS_is {b : List UInt8} {pos : Int} {frm : List Int} {s : Sq} (h : bestS b pos ((b.length : Int) + 1) frm = some s) :
    ∃ p n d : Nat, pos = (p : Int) ∧ s = ⟨0, n, d⟩ ∧ 3 ≤ n ∧ 1 ≤ d ∧ d ≤ p ∧ p + n ≤ b.length ∧ (∀ k, k < n → b[p + k]? = b[p + k - d]?) ∧ (p + n = b.length ∨ b[p + n]? ≠ b[p + n - d]?) := by
  obtain ⟨hm, h3⟩ := bestS_mem h
  obtain ⟨x, _, he, rfl⟩ := matchesS_mem hm
  have hl : lenS b pos x ((b.length : Int) + 1) = cpl ((b.length : Int) + 1).toNat (b.drop pos.toNat) (b.drop x.toNat) := by unfold lenS; rw [he]; rfl
  obtain ⟨p, q, rfl, rfl, hqp, hpn⟩ := earlier_iff he
  rw [hl] at h3 ⊢
  simp only [Int.toNat_natCast] at h3 ⊢
  have h1 := cpl_le ((b.length : Int) + 1).toNat (b.drop p) (b.drop q)
  have h2 := cpl_eq ((b.length : Int) + 1).toNat (b.drop p) (b.drop q)
  have h4 := cpl_stop ((b.length : Int) + 1).toNat (b.drop p) (b.drop q)
  generalize cpl ((b.length : Int) + 1).toNat (b.drop p) (b.drop q) = N at *
  rw [List.length_drop, List.length_drop] at h1 h4
  refine ⟨p, N, p - q, rfl, ?_, by omega, by omega, by omega, by omega, fun k hk => ?_, ?_⟩
  · congr 1
    omega
  · have := h2 k hk
    rw [List.getElem?_drop, List.getElem?_drop] at this
    rw [this]
    congr 1
    omega
  · by_cases hN : p + N = b.length
    · exact .inl hN
    · right
      have := h4 (by omega) (by omega) (by omega)
      rw [List.getElem?_drop, List.getElem?_drop] at this
      rw [show p + N - (p - q) = q + N from by omega]
      exact this
end Go.Port
namespace Go.Proofs.Ytaoiaiddamnbiaa
open Go.RowKit Go.Port

set_option maxRecDepth 100000 in
set_option maxHeartbeats 4000000 in
theorem MatchIs_walk (w : World) (vb : Value) (bs : List UInt8) (hvb : Rs w 1 vb bs.length (bs.map bv)) (pos : Int) (_ : -9223372036854775808 ≤ pos ∧ pos ≤ 9223372036854775807) (v : Value) (l : List Int) (hv : Rs w 1 v l.length (l.map (Value.int .i64))) (_ : ∀ x ∈ l, -9223372036854775808 ≤ x ∧ x ≤ 9223372036854775807) :
    Calls Try.prog 7 #[vb, .int .i64 pos, v] w (RetV w (.bool true)) := by
  obtain ⟨_, a, c, rfl, hnc, hcm, hac, hcell⟩ := hv
  obtain ⟨_, ab, cb, rfl, hnb, hbm, hab, hbcell⟩ := hvb
  have HW := hid works_any
  by_cases h4 : 300 < bs.length
  · clear hcell hbcell
    go_enter Try.func7, Try.ntmps7
    go_wp2_with (go_at_call 11; refine (HW.out _).mono ?_; rintro e w' ⟨rfl, hb⟩)
    go_ret
    exact ⟨rfl, hb⟩
  · by_cases h5 : 60 < l.length
    · clear hcell hbcell
      go_enter Try.func7, Try.ntmps7
      go_wp2_with (go_at_call 11; refine (HW.out _).mono ?_; rintro e w' ⟨rfl, hb⟩)
      go_ret
      exact ⟨rfl, hb⟩
    · have HBe := hid (best_any ab a cb c bs pos ((bs.length : Int) + 1) l w (by omega) hnb (by omega) hbcell hcell)
      have hw1 : IntKind.i64.wrap ((bs.length : Int) + 1) = (bs.length : Int) + 1 := by rw [IntKind.wrap_i64]; omega
      cases ho : bestS bs pos ((bs.length : Int) + 1) l with
      | none =>
        rw [ho] at HBe
        clear hcell hbcell ho
        unfold sqv at HBe
        dsimp only [Option.getD, Option.isSome, Sq.zero] at HBe
        go_enter Try.func7, Try.ntmps7
        go_wp2_with fail
        refine HBe.out.mono ?_
        rintro e w1 ⟨rfl, hb1⟩
        have HB1 := hid (hb1.alloc hb1.size (.cells #[.int .i64 0, .int .i64 0, .int .i64 0] 28))
        clear hb1
        go_wp2_with fail
        refine (HW.out _).mono ?_
        rintro e w6 ⟨rfl, hb6⟩
        go_wp2
        go_ret
        exact ⟨rfl, HB1.out.trans (hb6.mono HB1.out.size)⟩
      | some s =>
        rw [ho] at HBe
        obtain ⟨p, n, d, rfl, rfl, hn3, hd1, hdp, hpn, heq, hne⟩ := bestS_is ho
        unfold sqv at HBe
        dsimp only [Option.getD, Option.isSome] at HBe
        have HEQ := hid heq
        have HNE := hid hne
        have HC := hid (fun W (hW : Below w.heap.size w W) => at_same hbcell hW)
        obtain ⟨pn, hpn2⟩ : ∃ pn : Nat, pn = p + n := ⟨_, rfl⟩
        have hw2 : IntKind.i64.wrap ((p : Int) + (n : Int)) = (pn : Int) := by rw [IntKind.wrap_i64]; omega
        have hpnI : ¬ (bs.length : Int) < (pn : Int) := by omega
        have HPN := hid hpn2
        have hn3I : ¬ (n : Int) < 3 := by omega
        have hd1I : ¬ (d : Int) < 1 := by omega
        have hdpI : ¬ (p : Int) < (d : Int) := by omega
        clear heq hne hcell hbcell ho hpn2
        go_enter Try.func7, Try.ntmps7
        go_wp2_with fail
        refine HBe.out.mono ?_
        rintro e w1 ⟨rfl, hb1⟩
        have HB1 := hid (hb1.alloc hb1.size (.cells #[.int .i64 0, .int .i64 n, .int .i64 d] 28))
        have HX := hid (Blk.new w1 [.int .i64 0, .int .i64 n, .int .i64 d] 28)
        clear hb1
        go_wp2
        have x1 := HX.out.cell (k := 1) rfl
        have x2 := HX.out.cell (k := 2) rfl
        have hgw := HX.out.lt
        dsimp only [List.toArray] at x1 x2 hgw
        generalize w1.alloc (.cells #[.int .i64 0, .int .i64 (n : Int), .int .i64 (d : Int)] 28) = W1 at *
        generalize w1.heap.size = g at *
        go_loopw [9] (fun i wr => ∃ k m : Nat, k ≤ n ∧ i = .int .i64 k ∧ wr = W1.drewN m) (fun i _ => n - (intOf i).toNat)
        case atStart => exact ⟨0, 0, Nat.zero_le _, rfl, rfl⟩
        case round =>
          obtain ⟨k, m, hk, rfl, rfl⟩ := hrel
          by_cases hlt : k < n
          · have h1 := HEQ.out k hlt
            obtain ⟨pk, hpk⟩ : ∃ pk : Nat, pk = p + k := ⟨_, rfl⟩
            obtain ⟨qk, hqk⟩ : ∃ qk : Nat, qk = pk - d := ⟨_, rfl⟩
            rw [← hpk, ← hqk] at h1
            have hw3 : IntKind.i64.wrap ((p : Int) + (k : Int)) = (pk : Int) := by rw [IntKind.wrap_i64]; omega
            have hw4 : IntKind.i64.wrap ((pk : Int) - (d : Int)) = (qk : Int) := by rw [IntKind.wrap_i64]; omega
            have hpb : pk < bs.length := by have := HPN.out; omega
            have e2 : bs[qk]? = some (bs[pk]'hpb) := by rw [← h1, List.getElem?_eq_getElem hpb]
            obtain ⟨bl, off, rfl, _, c1⟩ := HC.out W1 HB1.out pk (bv (bs[pk]'hpb)) (by rw [List.getElem?_map, List.getElem?_eq_getElem hpb]; rfl)
            obtain ⟨bl', off', eq, _, c2⟩ := HC.out W1 HB1.out qk (bv (bs[pk]'hpb)) (by rw [List.getElem?_map, e2]; rfl)
            cases eq
            generalize bs[pk]'hpb = x at *
            have hpI : (pk : Int) < (bs.length : Int) := by omega
            have hqI : (qk : Int) < (bs.length : Int) := by omega
            unfold bv at c1 c2
            have HPK := hid (And.intro hpk hqk)
            clear h1 e2 hpk hqk
            go_wp2
            go_quiet (fail)
            go_wp2
            go_roundw
            case rel => exact ⟨k + 1, m + nq, hlt, by go_num, rfl⟩
            case measure => simp [intOf]; omega
          · obtain rfl : k = n := by omega
            have HB9 := hid (below_drewN HB1.out m)
            have y1 : (W1.drewN m).cell? ⟨g, 1, none⟩ = some (.int .i64 k) := x1
            have y2 : (W1.drewN m).cell? ⟨g, 2, none⟩ = some (.int .i64 d) := x2
            have hgm : g < (W1.drewN m).heap.size := hgw
            generalize hW9 : W1.drewN m = W9 at *
            have v1 := fun V : LowOf W9.heap.size W9 => V.cell y1 hgm
            have v2 := fun V : LowOf W9.heap.size W9 => V.cell y2 hgm
            have HWV := hid (fun V : LowOf W9.heap.size W9 => Calls.low_of V (Nat.le_refl _) (HW.out V.W))
            by_cases hN : pn = bs.length
            · go_wp2_with fail
              refine wp_region_low W9.heap.size (by kernel_rfl) (by kernel_rfl) ?_
              repeat (go_big_quiet_step (with_reducible exact HWV.out _))
              refine wpQuiet_nil ?_
              rintro _ ⟨V, rfl⟩
              have hbV := HB9.out.trans (V.below.mono HB9.out.size)
              go_wp2
              go_ret
              exact ⟨rfl, hbV⟩
            · have h1 := HNE.out
              rw [← HPN.out] at h1
              obtain ⟨qn, hqn⟩ : ∃ qn : Nat, qn = pn - d := ⟨_, rfl⟩
              rw [← hqn] at h1
              have hpb : pn < bs.length := by have := HPN.out; omega
              have hqb : qn < bs.length := by omega
              have hxy : bs[pn]'hpb ≠ bs[qn]'hqb := by
                intro e
                rcases h1 with h1 | h1
                · exact hN h1
                · exact h1 (by rw [List.getElem?_eq_getElem hpb, List.getElem?_eq_getElem hqb, e])
              have hxy' := u8_ne hxy
              have hw4 : IntKind.i64.wrap ((pn : Int) - (d : Int)) = (qn : Int) := by have := HPN.out; rw [IntKind.wrap_i64]; omega
              obtain ⟨bl, off, rfl, hb0, c1⟩ := HC.out W9 HB9.out pn (bv (bs[pn]'hpb)) (by rw [List.getElem?_map, List.getElem?_eq_getElem hpb]; rfl)
              obtain ⟨bl', off', eq, _, c2⟩ := HC.out W9 HB9.out qn (bv (bs[qn]'hqb)) (by rw [List.getElem?_map, List.getElem?_eq_getElem hqb]; rfl)
              cases eq
              generalize bs[pn]'hpb = x at *
              generalize bs[qn]'hqb = y at *
              have hpI : (pn : Int) < (bs.length : Int) := by omega
              have hqI : (qn : Int) < (bs.length : Int) := by omega
              unfold bv at c1 c2
              have b1 := fun V : LowOf W9.heap.size W9 => V.cell c1 hb0
              have b2 := fun V : LowOf W9.heap.size W9 => V.cell c2 hb0
              have HQN := hid hqn
              have hx1 : ((x.toNat : Int) != (y.toNat : Int)) = true := bne_iff_ne.2 (fun e => hxy (UInt8.toNat_inj.1 (by omega)))
              clear h1 hqn hgm
              go_wp2_with fail
              have hd1 : decide ((pn : Int) = (bs.length : Int)) = false := decide_eq_false (by omega)
              have hd2 : decide (pn = bs.length) = false := decide_eq_false hN
              have hd3 : ((pn : Int) == (bs.length : Int)) = false := by simp only [beq_eq_false_iff_ne]; omega
              refine wp_region_low W9.heap.size (by kernel_rfl) (by kernel_rfl) ?_
              repeat (go_big_quiet_step (with_reducible exact HWV.out _))
              refine wpQuiet_nil ?_
              rintro _ ⟨V, rfl⟩
              have hbV := HB9.out.trans (V.below.mono HB9.out.size)
              go_wp2
              go_ret
              exact ⟨rfl, hbV⟩
end Go.Proofs.Ytaoiaiddamnbiaa
namespace Go.Proofs.Ytaoiaiddamnbiaa.LMatchIs
open Go.ChangeShapes Go.WideShapes Go.ChangeAt Go.RowKit Go.Port

set_option maxRecDepth 100000 in
theorem lifted (os : Os) (started : os.Started) (H : Type) (enc : TypeId × Value → H) :
    ReturnsInHanded {} Try.checked os 7 .any (Rows.matchIsSpec.pre6 enc Try.prog Try.f7 Rows.matchIsRow.domain false) (Rows.matchIsSpec.post enc Try.prog Try.f7 false true false false) := by
  refine returnsInHanded_of_change (C := Try.checked) Try.own started (by kernel_rfl) Try.func7
    (ChangeSpec.witness6 (enc := enc) (C := Try.checked) false ⟨#[], #[.slice none 0 0, .int .i64 0, .slice none 0 0], []⟩ 8 (by kernel_rfl) (by kernel_rfl) (by kernel_rfl) (by kernel_rfl)) ?_
  intro W base args ds gs before hval0 hW hcnd _
  have hval : ∀ (j : Nat) t v, Try.f7.params[j]? = some t → args[j]? = some v → Value.okWide Try.prog W .any base t v := hval0
  have hW' := hW
  obtain ⟨p, q, hA0, hV, rfl, hfz, hnd⟩ := hW
  have hA : DataW.TrodAll enc Try.prog W 0 (fun _ => true) true Try.f7.params.toList args.toList ds p := hA0
  rw [Try.params7] at hA hval
  obtain ⟨v0, vs0, d0, ds0, p0, q0, hargs, rfl, rfl, h0, r0⟩ := trodAll_cons hA
  obtain ⟨v1, vs1, d1, ds1, p1, q1, rfl, rfl, rfl, h1, r1⟩ := trodAll_cons r0
  obtain ⟨v2, vs2, d2, ds2, p2, q2, rfl, rfl, rfl, h2, r2⟩ := trodAll_cons r1
  obtain ⟨rfl, rfl, rfl⟩ := trodAll_nil r2
  obtain rfl : args = #[v0, v1, v2] := by cases args; simp_all
  obtain ⟨rfl, rfl⟩ := trodVars_none hV
  obtain ⟨l0, hl0, wl0⟩ := open_rowV Try.underlying22 Try.underlying5 (by kernel_rfl) (hval 0 22 v0 rfl rfl) h0
  obtain ⟨bs0, hbs0, hn0⟩ := bytes_of wl0
  rw [hbs0, ← hn0] at hl0
  obtain ⟨a1, rfl, rfl, rfl, w1⟩ := open_int Try.underlying3 (hval 1 3 v1 rfl rfl) h1
  obtain ⟨l2, hl2, wl2⟩ := open_rowV Try.underlying26 Try.underlying3 (by kernel_rfl) (hval 2 26 v2 rfl rfl) h2
  clear hA0 hval0
  simp only [List.append_nil] at hW'
  refine (MatchIs_walk W v0 bs0 hl0 a1 (bounds_i64 w1) v2 l2 hl2 (fun x hx => bounds_i64 (wl2 x hx))).mono fun e W' ⟨he, hb⟩ => ?_
  subst he
  exact ⟨_, rfl, law_post Try.kids Try.full Try.underlying4 rfl rfl hW' (by rw [Try.params7]; decide) rfl rfl rfl hb⟩

theorem over : Rows.matchIsRow.holds Try.pinned (OpenSpec.ofChange Rows.matchIsSpec) :=
  OpenClaim.holds_of_wide 7 Try.f7 rfl rfl rfl rfl rfl rfl rfl ⟨rfl, rfl, rfl, rfl, rfl⟩ rfl rfl rfl rfl rfl (by kernel_rfl) Try.func7 (by kernel_rfl)
    (of_decide_eq_true (by kernel_rfl)) (by unfold Func.isWrapper; first | (rw [if_pos (by decide +kernel)]; kernel_rfl) | (rw [if_neg (by decide +kernel)]; exact ⟨rfl, rfl⟩))
    (fun os started H enc _ => lifted os started H enc)

/-- The statement. -/
theorem proved : Rows.MatchIsSaid :=
  over
end Go.Proofs.Ytaoiaiddamnbiaa.LMatchIs
