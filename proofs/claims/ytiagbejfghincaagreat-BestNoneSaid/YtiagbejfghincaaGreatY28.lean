/-
  The walks of the reference of layer 29: the distances of the candidates. The walks of the reference of layer 29: the positions of the candidates, the match found. The walks of the reference of layer 29: New.
-/
import Derived.Test.YtiagbejfghincaaGreatY01
import Derived.Test.YtiagbejfghincaaGreatY24
import Derived.Test.YtiagbejfghincaaGreatY27
import Derived.Test.YtiagbejfghincaaGreatY06
import Derived.Test.YtiagbejfghincaaGreatY23
import Derived.Test.YtiagbejfghincaaGreatY25
namespace Go.Port
open Go.RowKit
/-- The reference's finder. -/
def fdc (a : Option Addr) (n c : Nat) (A W D : Int) : List Value := [.slice a n c, .int .i64 A, .int .i64 W, .int .i64 D]
def fdv (a : Option Addr) (n c : Nat) (A W D : Int) : Value := .agg #[.slice a n c, .int .i64 A, .int .i64 W, .int .i64 D]
theorem seg3 {bs : List UInt8} {p : Nat} (h : p + 3 ≤ bs.length) : (bs.drop p).take 3 = [(key3 bs p).1, (key3 bs p).2.1, (key3 bs p).2.2] := by
  apply List.ext_getElem?
  intro j
  rw [List.getElem?_take]
  unfold key3
  rcases j with _ | _ | _ | j
  · simp [List.getElem?_drop, List.getD_eq_getElem?_getD, List.getElem?_eq_getElem (show p < bs.length by omega)]
  · simp [List.getElem?_drop, List.getD_eq_getElem?_getD, List.getElem?_eq_getElem (show p + 1 < bs.length by omega)]
  · simp [List.getElem?_drop, List.getD_eq_getElem?_getD, List.getElem?_eq_getElem (show p + 2 < bs.length by omega)]
  · rw [if_neg (by omega)]
    simp
/-- The three bytes of a key. -/
def k3l (K : Key3) : List UInt8 := [K.1, K.2.1, K.2.2]
theorem k3l_inj {K K' : Key3} (h : k3l K = k3l K') : K = K' := by
  unfold k3l at h
  simp only [List.cons.injEq, and_true] at h
  exact Prod.ext h.1 (Prod.ext h.2.1 h.2.2)
end Go.Port
namespace Go.Proofs.YtiagbejfghincaaGreat
open Go.RowKit Go.Port
set_option maxRecDepth 100000 in
set_option maxHeartbeats 4000000 in
theorem rplaces_any (bs : List UInt8) (a : Option Addr) (c A : Nat) (W D p : Int) (w : World) (hb : bs.length ≤ 1000000) (hbc : bs.length ≤ c) (hA : A ≤ bs.length) (hW : 1 ≤ W ∧ W ≤ 134217728) (hD : 1 ≤ D ∧ D ≤ 4096) (hp : -1000000 ≤ p ∧ p ≤ 1000000)
    (hc : ∀ j u, (bs.map bv)[j]? = some u → ∃ bl off, a = some ⟨bl, off, none⟩ ∧ bl < w.heap.size ∧ w.cell? ⟨bl, off + j, none⟩ = some u) :
    Calls Tryz.prog 98 #[fdv a bs.length c A W D, .int .i64 p] w fun e w' => ∃ v, e = .returned v ∧ w'.ownsRow w.heap.size 3 1 v (placesS bs A W D p).length ((placesS bs A W D p).map natI) ∧ Below w.heap.size w w' := by
  have HC := hid (fun W' (hW : Below w.heap.size w W') => at_same hc hW)
  have H2 := hid (Blk.new w (fdc a bs.length c A W D) 30)
  have HB := hid (below_new w (.cells (fdc a bs.length c A W D).toArray 30))
  have hw1 : IntKind.i64.wrap ((bs.length : Int) - (A : Int)) = (bs.length : Int) - (A : Int) := by rw [IntKind.wrap_i64]; omega
  have hw2 : IntKind.i64.wrap ((bs.length : Int) - (A : Int) - 3) = (bs.length : Int) - (A : Int) - 3 := by rw [IntKind.wrap_i64]; omega
  clear hc
  unfold fdv
  by_cases h0 : p < 0
  · have hp0 : placesS bs A W D p = [] := by unfold placesS; rw [if_neg (by omega)]
    rw [hp0]
    clear hp0
    go_enter Tryz.func98, Tryz.ntmps98
    go_wp2
    go_ret
    exact ⟨_, rfl, World.ownsRow_nil _ _ _ _, HB.out⟩
  · by_cases h1 : (bs.length : Int) - (A : Int) - 3 < p
    · have hp0 : placesS bs A W D p = [] := by
        unfold placesS
        split
        · unfold candS
          rw [if_neg (by omega)]
          rfl
        · rfl
      rw [hp0]
      clear hp0
      have c0 := H2.out.cell (k := 0) rfl
      have c1 := H2.out.cell (k := 1) rfl
      go_enter Tryz.func98, Tryz.ntmps98
      go_wp2
      go_ret
      exact ⟨_, rfl, World.ownsRow_nil _ _ _ _, HB.out⟩
    · obtain ⟨P, rfl⟩ : ∃ P : Nat, p = (P : Int) := ⟨p.toNat, by omega⟩
      have hpl : placesS bs A W D (P : Int) = (candGo (A + P) W D (hits bs (A + P))).map fun q => A + P - q := by
        unfold placesS
        rw [if_pos (by omega), Int.toNat_natCast]
        unfold candS
        rw [if_pos (by omega)]
      rw [hpl]
      obtain ⟨L, hL⟩ : ∃ L, (candGo (A + P) W D (hits bs (A + P))).map (fun q => A + P - q) = L := ⟨_, rfl⟩
      rw [hL]
      have HPl := hid hL
      have hw3 : IntKind.i64.wrap ((A : Int) + (P : Int)) = ((A + P : Nat) : Int) := by rw [IntKind.wrap_i64]; omega
      have h3 : A + P + 3 ≤ bs.length := by omega
      have H3 := hid h3
      have Hp := hid hp
      have Hb := hid hb
      have HA := hid hA
      clear hpl h3 hp hb hA hL
      generalize A + P = own at *
      go_enter Tryz.func98, Tryz.ntmps98
      have c0 := H2.out.cell (k := 0) rfl
      have c1 := H2.out.cell (k := 1) rfl
      go_wp2
      clear c0 c1 h0 h1 hw1 hw2 hw3
      go_loopw [6, 7] (fun v i wr => ∃ (off : Nat) (pre : List Nat), Hid (1 ≤ off ∧ off ≤ own + 1 ∧ PlAt bs own W D off pre) ∧ i = .int .i64 (off : Int) ∧ wr.ownsRow (w.heap.size + 1) 3 1 v pre.length ((pre.map fun q => own - q).map natI) ∧ Blk wr w.heap.size (fdc a bs.length c A W D) 30 ∧ Below w.heap.size w wr) (fun _ i _ => own + 1 - (intOf i).toNat)
      case atStart => exact ⟨1, [], hid ⟨Nat.le_refl _, by omega, PlAt.start _ _ _ _⟩, rfl, World.ownsRow_nil _ _ _ _, H2.out, HB.out⟩
      case round =>
        obtain ⟨off, pre, HI, rfl, hown, hbx, hbr⟩ := hrel
        have b0 := hbx.cell (k := 0) rfl
        have b2 := hbx.cell (k := 2) rfl
        have b3 := hbx.cell (k := 3) rfl
        have HO := hid hown
        have HX := hid hbx
        have HBr := hid hbr
        obtain ⟨av, cv, rfl⟩ := own_slice hown
        clear hown hbx hbr
        by_cases hs : (off : Int) ≤ W ∧ (off : Int) ≤ (own : Int) ∧ (pre.length : Int) < D
        · obtain ⟨hs1, hs2, hs3⟩ := hs
          have hk0 := H3.out
          have hbl := Hb.out
          have hi1 := HI.out.1
          obtain ⟨bl, oa, rfl, hbl1, _⟩ := HC.out wr HBr.out 0 (bv (bs.getD 0 0)) (by
            have : 0 < bs.length := by omega
            rw [List.getElem?_map, List.getElem?_eq_getElem this]
            simp [List.getD_eq_getElem?_getD, List.getElem?_eq_getElem this])
          have HCr := hid (HC.out wr HBr.out)
          have hstr : ∀ (o : Nat), o + 3 ≤ bs.length → ∀ (n cc : Nat), (convert 22 9 (.slice (some ⟨bl, oa + o, none⟩) 3 cc)).run Tryz.prog (wr.drewN n) = .ok (.string ⟨(k3l (key3 bs o)).toArray⟩) (wr.drewN n) := fun o ho n cc =>
            run_str (P := Tryz.prog) (wr.drewN n) 22 9 5 Tryz.underlying22 Tryz.underlying5 Tryz.underlying9 (some ⟨bl, oa + o, none⟩) 3 cc (k3l (key3 bs o)) rfl (fun j u hu => by
              have hj : j < 3 := (List.getElem?_eq_some_iff.1 hu).1
              have e : (bs.map bv)[o + j]? = some u := by
                rw [← hu, show k3l (key3 bs o) = (bs.drop o).take 3 from (seg3 ho).symm, List.getElem?_map, List.getElem?_map, List.getElem?_take_of_lt hj, List.getElem?_drop]
              obtain ⟨b1, o1, e1, e2, e3⟩ := HCr.out (o + j) u e
              simp only [Option.some.injEq, Addr.mk.injEq, and_true] at e1
              obtain ⟨rfl, rfl⟩ := e1
              exact ⟨bl, oa + o, rfl, by simpa using e2, by rw [Nat.add_assoc]; simpa using e3⟩)
          obtain ⟨q, hq⟩ : ∃ q : Nat, own = q + off := ⟨own - off, by omega⟩
          have hq1 : own - off = q := by omega
          have hw4 : IntKind.i64.wrap ((own : Int) - (off : Int)) = (q : Int) := by rw [IntKind.wrap_i64]; omega
          have hw5 : IntKind.i64.wrap ((q : Int) + 3) = ((q + 3 : Nat) : Int) := by rw [IntKind.wrap_i64]; omega
          have hw6 : IntKind.i64.wrap ((own : Int) + 3) = ((own + 3 : Nat) : Int) := by rw [IntKind.wrap_i64]; omega
          have hw7 : IntKind.i64.wrap ((off : Int) + 1) = ((off + 1 : Nat) : Int) := by rw [IntKind.wrap_i64]; omega
          have hs1q := fun n cc => hstr q (by omega) n cc
          have hs2q := fun n cc => hstr own (by omega) n cc
          have hcq : q + 3 ≤ c := by omega
          have hco : own + 3 ≤ c := by omega
          have hcqI : ((q + 3 : Nat) : Int) ≤ (c : Int) := by omega
          have hcoI : ((own + 3 : Nat) : Int) ≤ (c : Int) := by omega
          have hd3 : q + 3 - q = 3 := by omega
          have hd4 : own + 3 - own = 3 := by omega
          have HQ := hid (And.intro hq hq1)
          have HS := hid (And.intro hs1 (And.intro hs2 hs3))
          by_cases hk : key3 bs q = key3 bs own
          · have hbq : (k3l (key3 bs q) == k3l (key3 bs own)) = true := by rw [hk]; simp
            have HN := hid (HI.out.2.2.take hi1 (by omega) hs1 hs3 (show key3 bs (own - off) = key3 bs own by rw [hq1]; exact hk))
            have HD4 := hid hD
            have HI1 := hid hi1
            have HOf := hid (show off ≤ own by omega)
            clear hstr hq hq1 hk0 hbl hi1 hk
            go_wp2_with fail
            go_quiet (fail)
            clear hs1q hs2q hbq hcq hco hcqI hcoI hd3 hd4
            have hOw : (wr.drewN nq).ownsRow (w.heap.size + 1) 3 1 (.slice av pre.length cv) pre.length ((pre.map fun q => own - q).map natI) := HO.out
            have hXw : Blk (wr.drewN nq) w.heap.size (fdc (some ⟨bl, oa, none⟩) bs.length c A W D) 30 := HX.out
            have hBw := below_drewN HBr.out nq
            generalize wr.drewN nq = wq at *
            have HOw := hid hOw
            have HXw := hid hXw
            have HBw := hid hBw
            have hws := hBw.size
            have hpc : pre.length + 1 ≤ 5000 := by have := HS.out.2.2; have := HD4.out; omega
            clear hOw hXw hBw
            go_wp2_with (at_builtin; refine Hid.out ?_)
            refine hid ?_
            refine wpList_append1 rfl _ _ 23 rfl 3 _ 1 8 Tryz.underlying23 Tryz.info_int rfl (by decide) (by decide) _ (w.heap.size + 1) _ _ _ [.int .i64 (off : Int)] rfl ?hu rfl rfl (by exact HOw.out) ?hn ?hb ?hk
            case hu => simp [Value.oneCell']
            case hn => omega
            case hb => have := HXw.out.lt; omega
            case hk =>
              intro v' w3 hown' hg
              have hbg := below_grown HOw.out hg (by have := HXw.out.lt; omega)
              have HB3 := hid (HBw.out.trans (hbg.mono (Nat.le_succ _)))
              have HX3 := hid (HXw.out.grown hg (own_neT HOw.out HXw.out (by decide)))
              have HO3 := hid hown'
              clear hown' hg hbg
              go_wp2
              go_roundw
              case rel =>
                refine ⟨off + 1, pre ++ [own - off], hid ⟨by omega, by have := HOf.out; omega, HN.out⟩, by go_num, ?_, HX3.out, HB3.out⟩
                rw [List.length_append, List.map_append, List.map_append]
                have h3 := HO3.out
                have e : own - (own - off) = off := by have := HOf.out; omega
                simp only [List.map_cons, List.map_nil, e]
                exact h3
              case measure => have := HOf.out; simp [intOf]; omega
          · have hbq : (k3l (key3 bs q) == k3l (key3 bs own)) = false := by
              rw [beq_eq_false_iff_ne]
              exact fun e => hk (k3l_inj e)
            have HN := hid (HI.out.2.2.skip (by omega) (show key3 bs (own - off) ≠ key3 bs own by rw [hq1]; exact hk))
            have HI1 := hid hi1
            have HOf := hid (show off ≤ own by omega)
            clear hstr hq hq1 hk0 hbl hi1 hk
            go_wp2_with fail
            go_quiet (fail)
            go_wp2
            go_roundw
            case rel => exact ⟨off + 1, pre, hid ⟨by omega, by have := HOf.out; omega, HN.out⟩, by go_num, HO.out, HX.out, below_drewN HBr.out _⟩
            case measure => have := HOf.out; simp [intOf]; omega
        · have hs' : (off : Int) ≤ W → (off : Int) ≤ (own : Int) → ¬ (pre.length : Int) < D := fun h1 h2 h3 => hs ⟨h1, h2, h3⟩
          have hi1 := HI.out.1
          have hend := HI.out.2.2.stop hi1 (by omega)
          have HE := hid (show L = pre.map (fun q => own - q) by rw [← HPl.out, hend])
          clear hend hs hi1
          by_cases s1 : (off : Int) ≤ W
          · by_cases s2 : (off : Int) ≤ (own : Int)
            · have s3 := hs' s1 s2
              clear hs'
              go_wp2
              go_ret
              have hr := HO.out
              rw [HE.out]
              refine ⟨_, rfl, ?_, HBr.out⟩
              rw [List.length_map]
              exact own_le HO.out (Nat.le_succ _)
            · clear hs'
              go_wp2
              go_ret
              have hr := HO.out
              rw [HE.out]
              refine ⟨_, rfl, ?_, HBr.out⟩
              rw [List.length_map]
              exact own_le HO.out (Nat.le_succ _)
          · clear hs'
            go_wp2
            go_ret
            have hr := HO.out
            rw [HE.out]
            refine ⟨_, rfl, ?_, HBr.out⟩
            rw [List.length_map]
            exact own_le HO.out (Nat.le_succ _)
end Go.Proofs.YtiagbejfghincaaGreat
namespace Go.Port
open Go.RowKit
theorem placesS_eq (bs : List UInt8) (A : Nat) (W D p : Int) : placesS bs A W D p = (candL bs A W D p).map fun q => A + p.toNat - q := by
  unfold placesS candL
  split
  · rfl
  · rfl
theorem candL_own {bs : List UInt8} {A : Nat} {W D p : Int} {q : Nat} (h : q ∈ candL bs A W D p) : 0 ≤ p ∧ q < A + p.toNat := by
  unfold candL at h
  split at h
  · rename_i hp
    have := candS_mem h
    exact ⟨hp.1, this.1⟩
  · simp at h
end Go.Port
namespace Go.Proofs.YtiagbejfghincaaGreat
open Go.RowKit Go.Port
set_option maxRecDepth 100000 in
set_option maxHeartbeats 4000000 in
theorem rfrom_any (bs : List UInt8) (a : Option Addr) (c A : Nat) (W D p : Int) (w : World) (hb : bs.length ≤ 1000000) (hbc : bs.length ≤ c) (hA : A ≤ bs.length) (hW : 1 ≤ W ∧ W ≤ 134217728) (hD : 1 ≤ D ∧ D ≤ 4096) (hp : -1000000 ≤ p ∧ p ≤ 1000000)
    (hc : ∀ j u, (bs.map bv)[j]? = some u → ∃ bl off, a = some ⟨bl, off, none⟩ ∧ bl < w.heap.size ∧ w.cell? ⟨bl, off + j, none⟩ = some u) :
    Calls Tryz.prog 69 #[fdv a bs.length c A W D, .int .i64 p] w fun e w' => ∃ v, e = .returned v ∧ w'.ownsRow w.heap.size 3 1 v (candL bs A W D p).length ((candL bs A W D p).map natI) ∧ Below w.heap.size w w' := by
  have H2 := hid (Blk.new w (fdc a bs.length c A W D) 30)
  have hB := below_new w (.cells (fdc a bs.length c A W D).toArray 30)
  have HPl := hid (rplaces_any bs a c A W D p (w.alloc (.cells (fdc a bs.length c A W D).toArray 30)) hb hbc hA hW hD hp (at_same hc hB))
  have HB := hid hB
  rw [placesS_eq] at HPl
  have HCo := hid (fun q (h : q ∈ candL bs A W D p) => candL_own h)
  have hll := candL_deep bs A W D p (by omega)
  have hw1 : IntKind.i64.wrap ((A : Int) + p) = (A : Int) + p := by rw [IntKind.wrap_i64]; omega
  obtain ⟨A', hA'⟩ : ∃ A' : Nat, A' = A ∧ (A' : Int) ≤ 1000000 := ⟨A, rfl, by omega⟩
  obtain ⟨L, hL⟩ : ∃ L, candL bs A W D p = L := ⟨_, rfl⟩
  rw [hL] at HPl HCo hll ⊢
  have hll2 : L.length ≤ 5000 := by omega
  have HD := hid (And.intro hD (And.intro hp (And.intro hA'.1 hA'.2)))
  unfold fdc at HPl HB H2
  unfold fdv at HPl ⊢
  rw [List.length_map] at HPl
  clear hc hB hb hbc hA hW hD hp hL hll hA'
  go_enter Tryz.func69, Tryz.ntmps69
  have c0 := H2.out.cell (k := 0) rfl
  have c1 := H2.out.cell (k := 1) rfl
  have c2 := H2.out.cell (k := 2) rfl
  have c3 := H2.out.cell (k := 3) rfl
  go_wp2_with fail
  refine HPl.out.mono ?_
  rintro e w1 ⟨v, rfl, hown, hb1⟩
  obtain ⟨av, cv, rfl⟩ := own_slice hown
  have hcells := (Sl.of_owns hown).cells' rfl
  have HC := hid hcells
  have HX := hid (H2.out.below hb1 H2.out.lt)
  have HB1 := hid (HB.out.trans (hb1.mono HB.out.size))
  clear hown hb1 hcells c0 c1 c2 c3 HB H2 HPl
  have H1lt := hid HX.out.lt
  go_wp2
  go_loopw [6, 7] (fun v i wr => ∃ k : Nat, k ≤ L.length ∧ i = .int .i64 (k : Int) ∧ wr.ownsRow w1.heap.size 3 1 v (L.take k).length ((L.take k).map natI) ∧ Below w1.heap.size w1 wr) (fun _ i _ => L.length - (intOf i).toNat)
  case atStart => exact ⟨0, Nat.zero_le _, rfl, World.ownsRow_nil _ _ _ _, Below.refl _ _⟩
  case round =>
    obtain ⟨k, hk, rfl, hown, hBr⟩ := hrel
    by_cases hlt : k < L.length
    · obtain ⟨q, hq⟩ : ∃ q, L[k]? = some q := ⟨L[k], by simp [hlt]⟩
      have hco := HCo.out q (List.mem_of_getElem? hq)
      obtain ⟨bl2, off2, rfl, hb2, hcx⟩ := HC.out k (.int .i64 ((A + p.toNat - q : Nat) : Int)) (by rw [List.getElem?_map, List.getElem?_map, hq]; rfl)
      have hD0 := HD.out
      have hw2 : IntKind.i64.wrap ((A : Int) + p - ((A + p.toNat - q : Nat) : Int)) = (q : Int) := by rw [IntKind.wrap_i64]; omega
      have hbx : wr.cell? ⟨w.heap.size, 1, none⟩ = some (.int .i64 (A : Int)) := (hBr.cell (p := ⟨w.heap.size, 1, none⟩) H1lt.out).trans (HX.out.cell (k := 1) rfl)
      have hcr : wr.cell? ⟨bl2, off2 + k, none⟩ = some (.int .i64 ((A + p.toNat - q : Nat) : Int)) := (hBr.cell (p := ⟨bl2, off2 + k, none⟩) hb2).trans hcx
      have HST := hid (show L.take (k + 1) = L.take k ++ [q] by
        obtain ⟨h1, h2⟩ := List.getElem?_eq_some_iff.1 hq
        rw [List.take_succ_eq_append_getElem h1, h2])
      generalize A + p.toNat - q = X at *
      have HO := hid hown
      have HBr := hid hBr
      have hkI : (k : Int) < (L.length : Int) := by omega
      obtain ⟨ao, co, rfl⟩ := own_slice hown
      have hlk : (L.take k).length = k := by rw [List.length_take]; omega
      have hs5 := hBr.size
      rw [hlk] at HO ⊢
      have HCX := hid hcx
      clear hown hBr hq hco hD0 hlk hk hcx
      go_wp2_with fail
      refine wp_region_noPanic ?_
      refine wp_region_held_drew (S := fun W => Below w1.heap.size w1 W) (by kernel_rfl) HBr.out.drew (fun hHeld => ?_)
      have hOd : wr.drew.ownsRow w1.heap.size 3 1 (.slice ao k co) k ((L.take k).map natI) := HO.out
      have hBd := HBr.out.drew
      have hsd := hBd.size
      have HOd := hid hOd
      have HBd := hid hBd
      clear hOd hBd HO HBr hs5
      generalize wr.drew = wd at *
      refine wpAnyH_take (i := 0) (v := .slice ao k co) (by simp only [List.getElem?_toArray, List.getElem?_cons_zero]; rfl) (by kernel_rfl) (by kernel_rfl) (by kernel_rfl) (fun _ _ _ h => h) (Or.inl ⟨by rfl, fun W hSw => ?_⟩) (by assumption) ?_
      · clear hSw
        go_simp
      simp only [Act.put, List.setIfInBounds_toArray, List.set_cons_zero, List.set_cons_succ]
      refine wpAnyH_take (i := 1) (v := .pointer (some ⟨w.heap.size, 1, none⟩)) (by simp only [List.getElem?_toArray, List.getElem?_cons_zero, List.getElem?_cons_succ]; rfl) (by kernel_rfl) (by kernel_rfl) (by kernel_rfl) (fun _ _ _ h => h) (Or.inl ⟨by rfl, fun W hSw => ?_⟩) (by assumption) ?_
      · clear hSw
        go_simp
      simp only [Act.put, List.setIfInBounds_toArray, List.set_cons_zero, List.set_cons_succ]
      refine wpAnyH_take (i := 2) (v := .int .i64 (A : Int)) (by simp only [List.getElem?_toArray, List.getElem?_cons_zero, List.getElem?_cons_succ]; rfl) (by kernel_rfl) (by kernel_rfl) (by kernel_rfl) (fun _ _ _ h => h) (Or.inl ⟨by rfl, fun W hSw => ?_⟩) (by assumption) ?_
      · have hcw := (Below.cell (p := ⟨w.heap.size, 1, none⟩) hSw H1lt.out).trans (HX.out.cell (k := 1) rfl)
        go_simp
      simp only [Act.put, List.setIfInBounds_toArray, List.set_cons_zero, List.set_cons_succ]
      refine wpAnyH_take (i := 3) (v := .int .i64 p) (by simp only [List.getElem?_toArray, List.getElem?_cons_zero, List.getElem?_cons_succ]; rfl) (by kernel_rfl) (by kernel_rfl) (by kernel_rfl) (fun _ _ _ h => h) (Or.inl ⟨by rfl, fun W hSw => ?_⟩) (by assumption) ?_
      · clear hSw
        go_simp
      simp only [Act.put, List.setIfInBounds_toArray, List.set_cons_zero, List.set_cons_succ]
      refine wpAnyH_take (i := 4) (v := .int .i64 ((A : Int) + p)) (by simp only [List.getElem?_toArray, List.getElem?_cons_zero, List.getElem?_cons_succ]; rfl) (by kernel_rfl) (by kernel_rfl) (by kernel_rfl) (fun _ _ _ h => h) (Or.inl ⟨by rfl, fun W hSw => ?_⟩) (by assumption) ?_
      · clear hSw
        go_simp
      simp only [Act.put, List.setIfInBounds_toArray, List.set_cons_zero, List.set_cons_succ]
      refine wpAnyH_take (i := 5) (v := .slice (some ⟨bl2, off2, none⟩) L.length cv) (by simp only [List.getElem?_toArray, List.getElem?_cons_zero, List.getElem?_cons_succ]; rfl) (by kernel_rfl) (by kernel_rfl) (by kernel_rfl) (fun _ _ _ h => h) (Or.inl ⟨by rfl, fun W hSw => ?_⟩) (by assumption) ?_
      · clear hSw
        go_simp
      simp only [Act.put, List.setIfInBounds_toArray, List.set_cons_zero, List.set_cons_succ]
      refine wpAnyH_take (i := 6) (v := .int .i64 (k : Int)) (by simp only [List.getElem?_toArray, List.getElem?_cons_zero, List.getElem?_cons_succ]; rfl) (by kernel_rfl) (by kernel_rfl) (by kernel_rfl) (fun _ _ _ h => h) (Or.inl ⟨by rfl, fun W hSw => ?_⟩) (by assumption) ?_
      · clear hSw
        go_simp
      simp only [Act.put, List.setIfInBounds_toArray, List.set_cons_zero, List.set_cons_succ]
      refine wpAnyH_take (i := 7) (v := .pointer (some ⟨bl2, off2 + k, none⟩)) (by simp only [List.getElem?_toArray, List.getElem?_cons_zero, List.getElem?_cons_succ]; rfl) (by kernel_rfl) (by kernel_rfl) (by kernel_rfl) (fun _ _ _ h => h) (Or.inl ⟨by rfl, fun W hSw => ?_⟩) (by assumption) ?_
      · clear hSw
        go_simp
      simp only [Act.put, List.setIfInBounds_toArray, List.set_cons_zero, List.set_cons_succ]
      refine wpAnyH_take (i := 8) (v := .int .i64 (X : Int)) (by simp only [List.getElem?_toArray, List.getElem?_cons_zero, List.getElem?_cons_succ]; rfl) (by kernel_rfl) (by kernel_rfl) (by kernel_rfl) (fun _ _ _ h => h) (Or.inl ⟨by rfl, fun W hSw => ?_⟩) (by assumption) ?_
      · have hcw := (Below.cell (p := ⟨bl2, off2 + k, none⟩) hSw hb2).trans (HCX.out)
        go_simp
      simp only [Act.put, List.setIfInBounds_toArray, List.set_cons_zero, List.set_cons_succ]
      refine wpAnyH_take (i := 9) (v := .int .i64 (q : Int)) (by simp only [List.getElem?_toArray, List.getElem?_cons_zero, List.getElem?_cons_succ]; rfl) (by kernel_rfl) (by kernel_rfl) (by kernel_rfl) (fun _ _ _ h => h) (Or.inl ⟨by rfl, fun W hSw => ?_⟩) (by assumption) ?_
      · clear hSw
        go_simp
      simp only [Act.put, List.setIfInBounds_toArray, List.set_cons_zero, List.set_cons_succ]
      refine wpAnyH_ready (rs := [10]) (by kernel_rfl) (by simp) ?_
      refine AllReadyH.cons (by simp only [List.getElem?_toArray, List.getElem?_cons_zero, List.getElem?_cons_succ]; rfl) (fun K hK => ?_) AllReadyH.nil
      rw [if_pos (by rfl)]
      go_simp
      have hB6 := HBd.out.alloc hsd (.cells #[.int .i64 (q : Int)] 3)
      refine hK.out _ _ hB6 (fun _ => ?_)
      clear hK K
      refine wpAnyH_ready (rs := [11]) (by kernel_rfl) (by simp) ?_
      refine AllReadyH.cons (by simp only [List.getElem?_toArray, List.getElem?_cons_zero, List.getElem?_cons_succ]; rfl) (fun K hK => ?_) AllReadyH.nil
      refine step_append1 rfl _ _ 23 rfl 3 _ 1 8 Tryz.underlying23 Tryz.info_int rfl (by decide) w1.heap.size _ _ _ [.int .i64 (q : Int)] rfl ?hu rfl rfl (by exact HOd.out) ?h63 ?hn hsd ?hk
      case hu => simp [Value.oneCell']
      case h63 => simp only [maxLen]; omega
      case hn => omega
      case hk =>
        intro v' w7 hown7 hg
        have hbg := below_grown HOd.out hg hsd
        have hB7 := HBd.out.trans hbg
        refine hK.out _ _ hB7 (fun _ => ?_)
        clear hK K
        have HB7 := hid hB7
        have HO7 := hid hown7
        clear hB7 hown7 hbg hg hB6
        simp only [Act.put, List.setIfInBounds_toArray, List.set_cons_zero, List.set_cons_succ]
        refine wpAnyH_ready (rs := [12]) (by kernel_rfl) (by simp) ?_
        refine AllReadyH.cons (by simp only [List.getElem?_toArray, List.getElem?_cons_zero, List.getElem?_cons_succ]; rfl) (fun K hK => ?_) AllReadyH.nil
        rw [if_pos (by rfl)]
        go_simp
        refine hK.out _ _ HB7.out (fun _ => ?_)
        clear hK K
        refine wpAnyH_done (by kernel_rfl) ?_ _
        refine NoPanic.normal ?_
        go_wp2
        go_roundw
        case rel =>
          refine ⟨k + 1, hlt, by go_num, ?_, HB7.out⟩
          have h3 := HO7.out
          rw [HST.out, List.map_append, List.length_append, List.length_take, Nat.min_eq_left (Nat.le_of_lt hlt)]
          exact h3
        case measure => simp [intOf]; omega
    · obtain rfl : k = L.length := by omega
      rw [List.take_of_length_le (Nat.le_refl _)] at hown
      have HO := hid (own_le hown (show w.heap.size ≤ w1.heap.size by have := H1lt.out; omega))
      have HBr := hid (HB1.out.trans (hBr.mono HB1.out.size))
      clear hown hBr
      go_wp2
      go_ret
      exact ⟨_, rfl, HO.out, HBr.out⟩
end Go.Proofs.YtiagbejfghincaaGreat
namespace Go.Proofs.YtiagbejfghincaaGreat
open Go.RowKit Go.Port
set_option maxRecDepth 100000 in
set_option maxHeartbeats 4000000 in
theorem rnew_bad (a1 a2 : Option Addr) (n1 n2 c1 c2 : Nat) (W dep : Int) (w : World) (h : finderOk n2 W dep = false) :
    Calls Tryz.prog 30 #[.slice a1 n1 c1, .slice a2 n2 c2, .int .i64 W, .int .i64 dep] w (RetV w (.tuple #[fdv none 0 0 0 0 0, .int .i64 2])) := by
  have hc : W < 1 ∨ (1 ≤ W ∧ 134217728 < W) ∨ (1 ≤ W ∧ W ≤ 134217728 ∧ dep < 1) ∨ (1 ≤ W ∧ W ≤ 134217728 ∧ 1 ≤ dep ∧ 4096 < dep) ∨ (1 ≤ W ∧ W ≤ 134217728 ∧ 1 ≤ dep ∧ dep ≤ 4096 ∧ 131072 < (n2 : Int)) := by
    unfold finderOk at h
    simp only [Bool.and_eq_false_iff, decide_eq_false_iff_not] at h
    omega
  clear h
  have hX := Blk.new w (fdc none 0 0 0 0 0) 30
  have hB := below_new w (.cells (fdc none 0 0 0 0 0).toArray 30)
  unfold fdc at hX hB
  have HB := hid hB
  have z0 := hX.frozen 0
  have z1 := hX.frozen 1
  have z2 := hX.frozen 2
  have z3 := hX.frozen 3
  have p0 := hX.cell (k := 0) rfl
  have p1 := hX.cell (k := 1) rfl
  have p2 := hX.cell (k := 2) rfl
  have p3 := hX.cell (k := 3) rfl
  unfold fdv
  clear hX hB
  go_enter Tryz.func30, Tryz.ntmps30
  rcases hc with h | ⟨h1, h2⟩ | ⟨h1, h2, h3⟩ | ⟨h1, h2, h3, h4⟩ | ⟨h1, h2, h3, h4, h5⟩
  all_goals
    go_wp2
    refine bodyPost_ret (v := .tuple #[.agg #[.slice none 0 0, .int .i64 0, .int .i64 0, .int .i64 0], .int .i64 2]) (by simp [results, Tryz.results30, go_sem]) rfl ?_
    exact ⟨rfl, HB.out⟩
set_option maxRecDepth 100000 in
set_option maxHeartbeats 4000000 in
theorem rnew_ok (a1 a2 : Option Addr) (c1 c2 : Nat) (A D : List UInt8) (W dep : Int) (w : World) (hA : A.length ≤ 800000) (hD : (D.length : Int) ≤ 131072) (h1 : A.length ≤ c1) (h2 : D.length ≤ c2) (h3 : a1 = none → c1 = 0) (h4 : a2 = none → c2 = 0)
    (hc1 : CellsAt w a1 (A.map bv)) (hc2 : CellsAt w a2 (D.map bv)) (hW : 1 ≤ W) (hW2 : W ≤ 134217728) (hd : 1 ≤ dep) (hd2 : dep ≤ 4096) :
    Calls Tryz.prog 30 #[.slice a1 A.length c1, .slice a2 D.length c2, .int .i64 W, .int .i64 dep] w fun e w' => ∃ a c, e = .returned (.tuple #[fdv a (A ++ D).length c A.length W dep, .int .i64 0]) ∧ (A ++ D).length ≤ c ∧ CellsAt w' a ((A ++ D).map bv) ∧ Below w.heap.size w w' := by
  obtain ⟨bs, hbs⟩ : ∃ bs, A ++ D = bs := ⟨_, rfl⟩
  have HBs := hid hbs
  rw [hbs]
  clear hbs
  have hX := Blk.new w (fdc none 0 0 0 0 0) 30
  have hB := below_new w (.cells (fdc none 0 0 0 0 0).toArray 30)
  unfold fdc at hX hB
  have HC1 := hid (fun W' (h : Below w.heap.size w W') => hc1.low h)
  have HC2 := hid (fun W' (h : Below w.heap.size w W') => hc2.low h)
  have HX := hid hX
  have HB := hid hB
  have HAl := hid hA
  have hDl : D.length ≤ 131072 := by omega
  have HDl := hid hDl
  have H34 := hid (And.intro h1 (And.intro h2 (And.intro h3 h4)))
  unfold fdv
  clear hX hB hc1 hc2 hA h1 h2 h3 h4 hDl
  go_enter Tryz.func30, Tryz.ntmps30
  go_wp2_with (at_builtin; refine Hid.out ?_)
  refine hid ?_
  obtain ⟨w0, hw0, hz0⟩ : ∃ w0, w.alloc (.cells #[.slice none 0 0, .int .i64 0, .int .i64 0, .int .i64 0] 30) = w0 ∧ w0.heap.size = w.heap.size + 1 := ⟨_, rfl, by simp⟩
  rw [hw0] at HX HB ⊢
  have HE0 := hid (own_emptyK (w := w0) (e := 5) 1 (Nat.le_refl _))
  rw [hz0] at HE0
  have HX1 := hid (HX.out.alloc (.cells #[] 5))
  have HB1 := hid (HB.out.alloc HB.out.size (.cells #[] 5))
  have HXlt := hid (Nat.lt_succ_self w.heap.size)
  have hs0 : w.heap.size + 1 ≤ (w0.alloc (.cells #[] 5)).heap.size := by simp [hz0]
  have hsw : w.heap.size ≤ w.heap.size + 1 := Nat.le_succ _
  clear hw0 hz0
  generalize w0.alloc (.cells #[] 5) = w1 at *
  refine wpList_appendsK rfl _ _ 22 rfl 5 _ 1 1 Tryz.underlying22 Tryz.info_byte rfl (by decide) (by decide) w1 (w.heap.size + 1) _ 0 A.length c1 a1 [] (A.map bv) (by simp) ?hu rfl rfl H34.out.1 H34.out.2.2.1 (HC1.out w1 HB1.out) (by exact HE0.out) ?hn hs0 ?hk
  case hu =>
    intro u hu
    obtain ⟨x, _, rfl⟩ := List.mem_map.1 hu
    rfl
  case hn => have := HAl.out; omega
  case hk =>
    intro v1 w2 hown1 hg1
    rw [List.nil_append, Nat.zero_add] at hown1
    have hbg1 := below_grown HE0.out hg1 hs0
    have HO1 := hid hown1
    have HX2 := hid (HX1.out.grown hg1 (own_neT HE0.out HX1.out (by decide)))
    have HB2 := hid (HB1.out.trans (hbg1.mono hsw))
    have hs2 : w.heap.size + 1 ≤ w2.heap.size := Nat.le_trans hs0 hbg1.size
    clear hown1 hg1 hbg1 HE0 HX1 HB1 hs0
    obtain ⟨b1, d1, rfl⟩ := own_slice HO1.out
    go_wp2_with (at_builtin; refine Hid.out ?_)
    refine hid ?_
    refine wpList_appendsK rfl _ _ 22 rfl 5 _ 1 1 Tryz.underlying22 Tryz.info_byte rfl (by decide) (by decide) w2 (w.heap.size + 1) _ A.length D.length c2 a2 (A.map bv) (D.map bv) (by simp) ?hu2 rfl rfl H34.out.2.1 H34.out.2.2.2 (HC2.out w2 HB2.out) (by exact HO1.out) ?hn2 hs2 ?hk2
    case hu2 =>
      intro u hu
      obtain ⟨x, _, rfl⟩ := List.mem_map.1 hu
      rfl
    case hn2 => have := HAl.out; have := HDl.out; omega
    case hk2 =>
      intro v2 w3 hown2 hg2
      rw [← List.length_append, ← List.map_append, HBs.out] at hown2
      have hbg2 := below_grown HO1.out hg2 hs2
      have hX3 := HX2.out.grown hg2 (own_neT HO1.out HX2.out (by decide))
      have hB3 := HB2.out.trans (hbg2.mono hsw)
      obtain ⟨b2, d2, rfl⟩ := own_slice hown2
      have hcl := (Sl.of_owns hown2).cells' rfl
      have hcap := (Sl.of_owns hown2).cap rfl
      have HO2 := hid hown2
      have z0 := hX3.frozen 0
      have z1 := hX3.frozen 1
      have z2 := hX3.frozen 2
      have z3 := hX3.frozen 3
      have p0 := hX3.cell (k := 0) rfl
      have p1 := hX3.cell (k := 1) rfl
      have p2 := hX3.cell (k := 2) rfl
      have p3 := hX3.cell (k := 3) rfl
      have HX9 := hid ((((hX3.set 0 (.slice b2 bs.length d2)).set 1 (.int .i64 (A.length : Int))).set 2 (.int .i64 W)).set 3 (.int .i64 dep))
      have HB9 := hid ((((hB3.setCell (p := ⟨w.heap.size, 0, none⟩) (Nat.le_refl _) (.slice b2 bs.length d2)).setCell (p := ⟨w.heap.size, 1, none⟩) (Nat.le_refl _) (.int .i64 (A.length : Int))).setCell (p := ⟨w.heap.size, 2, none⟩) (Nat.le_refl _) (.int .i64 W)).setCell (p := ⟨w.heap.size, 3, none⟩) (Nat.le_refl _) (.int .i64 dep))
      have HO9 := hid (own_far (own_far (own_far (own_far hown2 (a := ⟨w.heap.size, 0, none⟩) (.slice b2 bs.length d2) HXlt.out) (a := ⟨w.heap.size, 1, none⟩) (.int .i64 (A.length : Int)) HXlt.out) (a := ⟨w.heap.size, 2, none⟩) (.int .i64 W) HXlt.out) (a := ⟨w.heap.size, 3, none⟩) (.int .i64 dep) HXlt.out)
      have HCap := hid hcap.1
      clear hcl hcap hown2 hX3 hB3 hbg2 hg2
      go_wp2
      have r0 := HX9.out.cell (k := 0) rfl
      have r1 := HX9.out.cell (k := 1) rfl
      have r2 := HX9.out.cell (k := 2) rfl
      have r3 := HX9.out.cell (k := 3) rfl
      refine bodyPost_ret (v := .tuple #[.agg #[.slice b2 bs.length d2, .int .i64 (A.length : Int), .int .i64 W, .int .i64 dep], .int .i64 0]) (by simp [results, Tryz.results30, go_sem, r0, r1, r2, r3]) rfl ?_
      exact ⟨_, _, rfl, HCap.out, (Sl.of_owns HO9.out).cells' rfl, HB9.out⟩
end Go.Proofs.YtiagbejfghincaaGreat
