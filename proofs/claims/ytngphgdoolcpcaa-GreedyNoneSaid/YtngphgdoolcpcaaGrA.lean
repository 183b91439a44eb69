/-
  The walks of the reference of layer 29: the distances of the candidates.
-/
import Derived.Test.YtngphgdoolcpcaaPlanAll
import Derived.Test.YtngphgdoolcpcaaMatchQ
import Derived.Test.YtngphgdoolcpcaaMem
import Derived.Test.YtngphgdoolcpcaaIxC
namespace Go.Port
open Go.RowKit
/-- The reference's finder. -/
def fdc (a : Option Addr) (n c : Nat) (A W D : Int) : List Value := [.slice a n c, .int .i64 A, .int .i64 W, .int .i64 D]
def fdv (a : Option Addr) (n c : Nat) (A W D : Int) : Value := .agg #[.slice a n c, .int .i64 A, .int .i64 W, .int .i64 D]
theorem seg3 {bs : List UInt8} {p : Nat} (h : p + 3 ≤ bs.length) : (bs.drop p).take 3 = [(key3 bs p).1, (key3 bs p).2.1, (key3 bs p).2.2] := by
  apply List.ext_getElem?
  intro j
  rw [List.getElem?_take]
  unfold key3
  rcases j with _ | _ | _ | j
  · simp [List.getElem?_drop, List.getD_eq_getElem?_getD, List.getElem?_eq_getElem (show p < bs.length by omega)]
  · simp [List.getElem?_drop, List.getD_eq_getElem?_getD, List.getElem?_eq_getElem (show p + 1 < bs.length by omega)]
  · simp [List.getElem?_drop, List.getD_eq_getElem?_getD, List.getElem?_eq_getElem (show p + 2 < bs.length by omega)]
  · rw [if_neg (by omega)]
    simp
/-- The three bytes of a key. -/
def k3l (K : Key3) : List UInt8 := [K.1, K.2.1, K.2.2]
theorem k3l_inj {K K' : Key3} (h : k3l K = k3l K') : K = K' := by
  unfold k3l at h
  simp only [List.cons.injEq, and_true] at h
  exact Prod.ext h.1 (Prod.ext h.2.1 h.2.2)
end Go.Port
namespace Go.Proofs.Ytngphgdoolcpcaa
open Go.RowKit Go.Port

set_option maxRecDepth 100000 in
set_option maxHeartbeats 4000000 in
theorem rplaces_any (bs : List UInt8) (a : Option Addr) (c A : Nat) (W D p : Int) (w : World) (hb : bs.length ≤ 1000000) (hbc : bs.length ≤ c) (hA : A ≤ bs.length) (hW : 1 ≤ W ∧ W ≤ 134217728) (hD : 1 ≤ D ∧ D ≤ 4096) (hp : -1000000 ≤ p ∧ p ≤ 1000000)
    (hc : ∀ j u, (bs.map bv)[j]? = some u → ∃ bl off, a = some ⟨bl, off, none⟩ ∧ bl < w.heap.size ∧ w.cell? ⟨bl, off + j, none⟩ = some u) :
    Calls Try.prog 68 #[fdv a bs.length c A W D, .int .i64 p] w fun e w' => ∃ v, e = .returned v ∧ w'.ownsRow w.heap.size 3 1 v (placesS bs A W D p).length ((placesS bs A W D p).map natI) ∧ Below w.heap.size w w' := by
  have HC := hid (fun W' (hW : Below w.heap.size w W') => at_same hc hW)
  have H2 := hid (Blk.new w (fdc a bs.length c A W D) 25)
  have HB := hid (below_new w (.cells (fdc a bs.length c A W D).toArray 25))
  have hw1 : IntKind.i64.wrap ((bs.length : Int) - (A : Int)) = (bs.length : Int) - (A : Int) := by rw [IntKind.wrap_i64]; omega
  have hw2 : IntKind.i64.wrap ((bs.length : Int) - (A : Int) - 3) = (bs.length : Int) - (A : Int) - 3 := by rw [IntKind.wrap_i64]; omega
  clear hc
  unfold fdv
  by_cases h0 : p < 0
  · have hp0 : placesS bs A W D p = [] := by unfold placesS; rw [if_neg (by omega)]
    rw [hp0]
    clear hp0
    go_enter Try.func68, Try.ntmps68
    go_wp2
    go_ret
    exact ⟨_, rfl, World.ownsRow_nil _ _ _ _, HB.out⟩
  · by_cases h1 : (bs.length : Int) - (A : Int) - 3 < p
    · have hp0 : placesS bs A W D p = [] := by
        unfold placesS
        split
        · unfold candS
          rw [if_neg (by omega)]
          rfl
        · rfl
      rw [hp0]
      clear hp0
      have c0 := H2.out.cell (k := 0) rfl
      have c1 := H2.out.cell (k := 1) rfl
      go_enter Try.func68, Try.ntmps68
      go_wp2
      go_ret
      exact ⟨_, rfl, World.ownsRow_nil _ _ _ _, HB.out⟩
    · obtain ⟨P, rfl⟩ : ∃ P : Nat, p = (P : Int) := ⟨p.toNat, by omega⟩
      have hpl : placesS bs A W D (P : Int) = (candGo (A + P) W D (hits bs (A + P))).map fun q => A + P - q := by
        unfold placesS
        rw [if_pos (by omega), Int.toNat_natCast]
        unfold candS
        rw [if_pos (by omega)]
      rw [hpl]
      obtain ⟨L, hL⟩ : ∃ L, (candGo (A + P) W D (hits bs (A + P))).map (fun q => A + P - q) = L := ⟨_, rfl⟩
      rw [hL]
      have HPl := hid hL
      have hw3 : IntKind.i64.wrap ((A : Int) + (P : Int)) = ((A + P : Nat) : Int) := by rw [IntKind.wrap_i64]; omega
      have h3 : A + P + 3 ≤ bs.length := by omega
      have H3 := hid h3
      have Hp := hid hp
      have Hb := hid hb
      have HA := hid hA
      clear hpl h3 hp hb hA hL
      generalize A + P = own at *
      go_enter Try.func68, Try.ntmps68
      have c0 := H2.out.cell (k := 0) rfl
      have c1 := H2.out.cell (k := 1) rfl
      go_wp2
      clear c0 c1 h0 h1 hw1 hw2 hw3
      go_loopw [6, 7] (fun v i wr => ∃ (off : Nat) (pre : List Nat), Hid (1 ≤ off ∧ off ≤ own + 1 ∧ PlAt bs own W D off pre) ∧ i = .int .i64 (off : Int) ∧ wr.ownsRow (w.heap.size + 1) 3 1 v pre.length ((pre.map fun q => own - q).map natI) ∧ Blk wr w.heap.size (fdc a bs.length c A W D) 25 ∧ Below w.heap.size w wr) (fun _ i _ => own + 1 - (intOf i).toNat)
      case atStart => exact ⟨1, [], hid ⟨Nat.le_refl _, by omega, PlAt.start _ _ _ _⟩, rfl, World.ownsRow_nil _ _ _ _, H2.out, HB.out⟩
      case round =>
        obtain ⟨off, pre, HI, rfl, hown, hbx, hbr⟩ := hrel
        have b0 := hbx.cell (k := 0) rfl
        have b2 := hbx.cell (k := 2) rfl
        have b3 := hbx.cell (k := 3) rfl
        have HO := hid hown
        have HX := hid hbx
        have HBr := hid hbr
        obtain ⟨av, cv, rfl⟩ := own_slice hown
        clear hown hbx hbr
        by_cases hs : (off : Int) ≤ W ∧ (off : Int) ≤ (own : Int) ∧ (pre.length : Int) < D
        · obtain ⟨hs1, hs2, hs3⟩ := hs
          have hk0 := H3.out
          have hbl := Hb.out
          have hi1 := HI.out.1
          obtain ⟨bl, oa, rfl, hbl1, _⟩ := HC.out wr HBr.out 0 (bv (bs.getD 0 0)) (by
            have : 0 < bs.length := by omega
            rw [List.getElem?_map, List.getElem?_eq_getElem this]
            simp [List.getD_eq_getElem?_getD, List.getElem?_eq_getElem this])
          have HCr := hid (HC.out wr HBr.out)
          have hstr : ∀ (o : Nat), o + 3 ≤ bs.length → ∀ (n cc : Nat), (convert 22 9 (.slice (some ⟨bl, oa + o, none⟩) 3 cc)).run Try.prog (wr.drewN n) = .ok (.string ⟨(k3l (key3 bs o)).toArray⟩) (wr.drewN n) := fun o ho n cc =>
            run_str (P := Try.prog) (wr.drewN n) 22 9 5 Try.underlying22 Try.underlying5 Try.underlying9 (some ⟨bl, oa + o, none⟩) 3 cc (k3l (key3 bs o)) rfl (fun j u hu => by
              have hj : j < 3 := (List.getElem?_eq_some_iff.1 hu).1
              have e : (bs.map bv)[o + j]? = some u := by
                rw [← hu, show k3l (key3 bs o) = (bs.drop o).take 3 from (seg3 ho).symm, List.getElem?_map, List.getElem?_map, List.getElem?_take_of_lt hj, List.getElem?_drop]
              obtain ⟨b1, o1, e1, e2, e3⟩ := HCr.out (o + j) u e
              simp only [Option.some.injEq, Addr.mk.injEq, and_true] at e1
              obtain ⟨rfl, rfl⟩ := e1
              exact ⟨bl, oa + o, rfl, by simpa using e2, by rw [Nat.add_assoc]; simpa using e3⟩)
          obtain ⟨q, hq⟩ : ∃ q : Nat, own = q + off := ⟨own - off, by omega⟩
          have hq1 : own - off = q := by omega
          have hw4 : IntKind.i64.wrap ((own : Int) - (off : Int)) = (q : Int) := by rw [IntKind.wrap_i64]; omega
          have hw5 : IntKind.i64.wrap ((q : Int) + 3) = ((q + 3 : Nat) : Int) := by rw [IntKind.wrap_i64]; omega
          have hw6 : IntKind.i64.wrap ((own : Int) + 3) = ((own + 3 : Nat) : Int) := by rw [IntKind.wrap_i64]; omega
          have hw7 : IntKind.i64.wrap ((off : Int) + 1) = ((off + 1 : Nat) : Int) := by rw [IntKind.wrap_i64]; omega
          have hs1q := fun n cc => hstr q (by omega) n cc
          have hs2q := fun n cc => hstr own (by omega) n cc
          have hcq : q + 3 ≤ c := by omega
          have hco : own + 3 ≤ c := by omega
          have hcqI : ((q + 3 : Nat) : Int) ≤ (c : Int) := by omega
          have hcoI : ((own + 3 : Nat) : Int) ≤ (c : Int) := by omega
          have hd3 : q + 3 - q = 3 := by omega
          have hd4 : own + 3 - own = 3 := by omega
          have HQ := hid (And.intro hq hq1)
          have HS := hid (And.intro hs1 (And.intro hs2 hs3))
          by_cases hk : key3 bs q = key3 bs own
          · have hbq : (k3l (key3 bs q) == k3l (key3 bs own)) = true := by rw [hk]; simp
            have HN := hid (HI.out.2.2.take hi1 (by omega) hs1 hs3 (show key3 bs (own - off) = key3 bs own by rw [hq1]; exact hk))
            have HD4 := hid hD
            have HI1 := hid hi1
            have HOf := hid (show off ≤ own by omega)
            clear hstr hq hq1 hk0 hbl hi1 hk
            go_wp2_with fail
            go_quiet (fail)
            clear hs1q hs2q hbq hcq hco hcqI hcoI hd3 hd4
            have hOw : (wr.drewN nq).ownsRow (w.heap.size + 1) 3 1 (.slice av pre.length cv) pre.length ((pre.map fun q => own - q).map natI) := HO.out
            have hXw : Blk (wr.drewN nq) w.heap.size (fdc (some ⟨bl, oa, none⟩) bs.length c A W D) 25 := HX.out
            have hBw := below_drewN HBr.out nq
            generalize wr.drewN nq = wq at *
            have HOw := hid hOw
            have HXw := hid hXw
            have HBw := hid hBw
            have hws := hBw.size
            have hpc : pre.length + 1 ≤ 5000 := by have := HS.out.2.2; have := HD4.out; omega
            clear hOw hXw hBw
            go_wp2_with (at_builtin; refine Hid.out ?_)
            refine hid ?_
            refine wpList_append1 rfl _ _ 49 rfl 3 _ 1 8 Try.underlying49 Try.info_int rfl (by decide) (by decide) _ (w.heap.size + 1) _ _ _ [.int .i64 (off : Int)] rfl ?hu rfl rfl (by exact HOw.out) ?hn ?hb ?hk
            case hu => simp [Value.oneCell']
            case hn => omega
            case hb => have := HXw.out.lt; omega
            case hk =>
              intro v' w3 hown' hg
              have hbg := below_grown HOw.out hg (by have := HXw.out.lt; omega)
              have HB3 := hid (HBw.out.trans (hbg.mono (Nat.le_succ _)))
              have HX3 := hid (HXw.out.grown hg (own_neT HOw.out HXw.out (by decide)))
              have HO3 := hid hown'
              clear hown' hg hbg
              go_wp2
              go_roundw
              case rel =>
                refine ⟨off + 1, pre ++ [own - off], hid ⟨by omega, by have := HOf.out; omega, HN.out⟩, by go_num, ?_, HX3.out, HB3.out⟩
                rw [List.length_append, List.map_append, List.map_append]
                have h3 := HO3.out
                have e : own - (own - off) = off := by have := HOf.out; omega
                simp only [List.map_cons, List.map_nil, e]
                exact h3
              case measure => have := HOf.out; simp [intOf]; omega
          · have hbq : (k3l (key3 bs q) == k3l (key3 bs own)) = false := by
              rw [beq_eq_false_iff_ne]
              exact fun e => hk (k3l_inj e)
            have HN := hid (HI.out.2.2.skip (by omega) (show key3 bs (own - off) ≠ key3 bs own by rw [hq1]; exact hk))
            have HI1 := hid hi1
            have HOf := hid (show off ≤ own by omega)
            clear hstr hq hq1 hk0 hbl hi1 hk
            go_wp2_with fail
            go_quiet (fail)
            go_wp2
            go_roundw
            case rel => exact ⟨off + 1, pre, hid ⟨by omega, by have := HOf.out; omega, HN.out⟩, by go_num, HO.out, HX.out, below_drewN HBr.out _⟩
            case measure => have := HOf.out; simp [intOf]; omega
        · have hs' : (off : Int) ≤ W → (off : Int) ≤ (own : Int) → ¬ (pre.length : Int) < D := fun h1 h2 h3 => hs ⟨h1, h2, h3⟩
          have hi1 := HI.out.1
          have hend := HI.out.2.2.stop hi1 (by omega)
          have HE := hid (show L = pre.map (fun q => own - q) by rw [← HPl.out, hend])
          clear hend hs hi1
          by_cases s1 : (off : Int) ≤ W
          · by_cases s2 : (off : Int) ≤ (own : Int)
            · have s3 := hs' s1 s2
              clear hs'
              go_wp2
              go_ret
              have hr := HO.out
              rw [HE.out]
              refine ⟨_, rfl, ?_, HBr.out⟩
              rw [List.length_map]
              exact own_le HO.out (Nat.le_succ _)
            · clear hs'
              go_wp2
              go_ret
              have hr := HO.out
              rw [HE.out]
              refine ⟨_, rfl, ?_, HBr.out⟩
              rw [List.length_map]
              exact own_le HO.out (Nat.le_succ _)
          · clear hs'
            go_wp2
            go_ret
            have hr := HO.out
            rw [HE.out]
            refine ⟨_, rfl, ?_, HBr.out⟩
            rw [List.length_map]
            exact own_le HO.out (Nat.le_succ _)
end Go.Proofs.Ytngphgdoolcpcaa
