/-
  The walks of layer 26 (exec), sixth part: joined, done, Run.
-/
import Derived.Test.YtlgablepckmogaaGreatQ48
namespace Go.Port
open Go.RowKit
/-- The bytes of pieces, one behind the other. -/
def pcsB (ps : List ((Option Addr × Nat) × List UInt8)) : List UInt8 := ps.flatMap (·.2)
theorem pcsB_snoc {ps : List ((Option Addr × Nat) × List UInt8)} {k : Nat} {p : (Option Addr × Nat) × List UInt8} (h : ps[k]? = some p) : pcsB (ps.take (k + 1)) = pcsB (ps.take k) ++ p.2 := by
  unfold pcsB
  rw [take_snoc h, List.flatMap_append, List.flatMap_cons, List.flatMap_nil, List.append_nil]
theorem TurnX.turned {rb xb : Nat} {r0 r1 : Option Nat} {w0 w w1 : World} (h : TurnX rb xb r0 r1 w w1) (hx : w0.heap.size ≤ xb) (hb : Below w0.heap.size w0 w) : Turned rb r0 r1 w0 w1 := by
  refine ⟨h.os.trans hb.os, h.tape.trans hb.tape, h.output.trans hb.output, Nat.le_trans hb.size h.size, fun k hk h1 h2 => (h.block k (Nat.lt_of_lt_of_le hk hb.size) h1 (by omega) h2).trans (hb.block k hk), ?_⟩
  rcases h.next with h3 | h3
  · exact .inl h3
  · exact .inr fun r e => Nat.le_trans hb.size (h3 r e)
theorem ver_len {bs : List UInt8} {A : Nat} {W : Int} : ∀ (l : List Sq) (p : Int), VerOk bs A W p l → p + (l.length : Int) ≤ endOf p l := by
  intro l
  induction l with
  | nil => intro p _; show p + ((0 : Nat) : Int) ≤ p; omega
  | cons s r ih =>
    intro p h
    have h0 := ih _ h.2
    have h1 := h.1.len
    have h2 := h.1.lit
    show p + ((r.length + 1 : Nat) : Int) ≤ endOf (p + s.lit + s.len) r
    omega
theorem ver_short {A D : List UInt8} {W : Int} {l : List Sq} (h : VerOk (A ++ D) A.length W 0 l) : l.length ≤ D.length := by
  have hb : ((A ++ D).length : Int) - (A.length : Int) = D.length := by rw [List.length_append]; omega
  have h1 := ver_len l 0 h
  have h2 := (VerOk.tail l 0 h (by omega)).2
  omega
theorem pcsB_split (ps : List ((Option Addr × Nat) × List UInt8)) (k : Nat) : pcsB ps = pcsB (ps.take k) ++ pcsB (ps.drop k) := by
  unfold pcsB
  rw [← List.flatMap_append, List.take_append_drop]
end Go.Port
namespace Go.Proofs.YtlgablepckmogaaGreat
open Go.RowKit Go.Port
theorem xrun1_any (v : Value) (w : World) :
    Calls Tryz.prog 28 #[v] w fun e w' => e = .returned v ∧ w = w' := by
  go_enter Tryz.func28, Tryz.ntmps28
  go_wp2
  go_ret
  exact ⟨rfl, rfl⟩
set_option maxRecDepth 100000 in
set_option maxHeartbeats 2000000 in
theorem xjoin_ok (ps : List ((Option Addr × Nat) × List UInt8)) (a : Option Addr) (c : Nat) (w : World) (hp : ∀ p ∈ ps, p.2.length ≤ p.1.2 ∧ (p.1.1 = none → p.1.2 = 0) ∧ CellsAt w p.1.1 (p.2.map bv)) (hl : (pcsB ps).length ≤ 1000000) (hn : ps.length ≤ 1001) (hc : CellsAt w a (ps.map pcv)) :
    Calls Tryz.prog 27 #[.slice a ps.length c, .func (.func 28) #[] #[]] w fun e w' => ∃ v, e = .returned v ∧ w'.ownsRow w.heap.size 5 1 v (pcsB ps).length ((pcsB ps).map bv) ∧ Below w.heap.size w w' := by
  have HP := hid hp
  have HC := hid hc
  have HL := hid hl
  have HN := hid hn
  have HI := hid xrun1_any
  clear hp hc hl hn
  go_enter Tryz.func27, Tryz.ntmps27
  go_wp2
  go_loopg [4, 9] ps.length (fun gk o i wr => ∃ k : Nat, gk = ps.length - k ∧ k ≤ ps.length ∧ i = .int .i64 (k : Int) ∧ wr.ownsRow w.heap.size 5 1 o (pcsB (ps.take k)).length ((pcsB (ps.take k)).map bv) ∧ Hid (Below w.heap.size w wr))
  case atStart => exact ⟨0, rfl, Nat.zero_le _, rfl, World.ownsRow_nil _ _ _ _, hid (Below.refl _ _)⟩
  case round =>
    obtain ⟨k, hgk, hk, rfl, hown, HB⟩ := hrel
    have HG := hid hgk
    obtain ⟨oa, oc, rfl⟩ := own_slice hown
    have HO := hid hown
    have HKn := hid hk
    clear hgk hown
    by_cases hlt : k < ps.length
    · obtain ⟨p, hs⟩ : ∃ p, ps[k]? = some p := ⟨ps[k], by simp [hlt]⟩
      have hfl := pcsB_snoc hs
      have hpl : (pcsB (ps.take (k + 1))).length ≤ 1000000 := by
        have h1 := pcsB_split ps (k + 1)
        have h2 := HL.out
        rw [h1, List.length_append] at h2
        omega
      rw [hfl, List.length_append] at hpl
      obtain ⟨q1, q2, q3⟩ := HP.out p (List.mem_of_getElem? hs)
      have HFl := hid hfl
      have HQ := hid (And.intro q1 (And.intro q2 (q3.low HB.out)))
      have HPl := hid hpl
      obtain ⟨bl, o, rfl, hbl, y0⟩ := HC.out.low HB.out k (pcv p) (by rw [List.getElem?_map, hs]; rfl)
      obtain ⟨⟨pa, pcc⟩, pb⟩ := p
      unfold pcv at y0
      dsimp only at y0 HQ HPl HFl
      have hkI : (k : Int) < (ps.length : Int) := by omega
      have HLt := hid hlt
      clear hs hfl hpl q1 q2 q3 hlt hbl
      go_wp2_with (go_at_call 28; refine (HI.out _ _).mono ?_; refine Hid.out ?_)
      refine hid ?_
      rintro e w' ⟨rfl, rfl⟩
      go_wp2_with (at_builtin; refine Hid.out ?_)
      refine hid ?_
      refine wpList_appendsK rfl _ _ 22 rfl 5 _ 1 1 Tryz.underlying22 Tryz.info_byte rfl (by decide) (by decide) wr w.heap.size _ _ pb.length pcc pa ((pcsB (ps.take k)).map bv) (pb.map bv) (by simp) ?hu rfl rfl HQ.out.1 HQ.out.2.1 HQ.out.2.2 (by exact HO.out) ?hn HB.out.size ?hk
      case hu =>
        intro u hu
        obtain ⟨x, _, rfl⟩ := List.mem_map.1 hu
        rfl
      case hn => have := HPl.out; omega
      case hk =>
        intro v' w4 hown' hg
        have HB4 := hid (HB.out.grown hg HB.out.size (fun k hk => (HO.out.lt k hk).1))
        have HO4 := hid hown'
        have hw1 : IntKind.i64.wrap ((k : Int) + 1) = ((k + 1 : Nat) : Int) := by rw [IntKind.wrap_i64]; have := HN.out; have := HKn.out; omega
        clear hown' hg y0
        go_wp2
        go_roundg (ps.length - (k + 1))
        case rel =>
          refine ⟨k + 1, rfl, HLt.out, rfl, ?_, HB4⟩
          rw [HFl.out, List.map_append, List.length_append]
          exact HO4.out
        case measure => have := HG.out; have := HLt.out; omega
    · obtain rfl : k = ps.length := by omega
      have hO := HO.out
      rw [List.take_length] at hO
      have HO2 := hid hO
      clear hO
      go_wp2
      go_ret
      refine ⟨.slice oa (pcsB ps).length oc, ?_, HO2.out, HB.out⟩
      simp
set_option maxRecDepth 100000 in
set_option maxHeartbeats 2000000 in
theorem xdone_ok (base rb : Nat) (row : Option Nat) (A D : List UInt8) (W : Nat) (l : List Sq) (al ad : Option Addr) (cl c : Nat) (w : World) (h : RgAt 66 5 base rb row W A w) (hv : VerOk (A ++ D) A.length (W : Int) 0 l) (hD : D.length ≤ 1000) (hA : A.length ≤ 1000) (hl : l.length ≤ 1000) (hlc : l.length ≤ cl) (hc : CellsAt w al (l.flatMap sqc)) (hal : 0 < l.length → ∀ x, al = some x → x.block < base) (hq1 : (litsS D l).length ≤ c) (hq2 : ad = none → c = 0) (hq3 : CellsAt w ad ((litsS D l).map bv)) :
    Calls Tryz.prog 26 #[.pointer (some ⟨rb, 0, none⟩), .slice ad (litsS D l).length c, .slice al l.length cl, .int .i64 131072] w fun e w' => ∃ (v : Value) (ps : List ((Option Addr × Nat) × List UInt8)) (row' : Option Nat), e = .returned (.tuple #[v, .int .i64 0]) ∧ w'.ownsRow w.heap.size 22 1 v ps.length (ps.map pcv) ∧ (∀ p ∈ ps, p.2.length ≤ p.1.2 ∧ (p.1.1 = none → p.1.2 = 0) ∧ CellsAt w' p.1.1 (p.2.map bv)) ∧ pcsB ps = D ∧ ps.length ≤ 1001 ∧ RgAt 66 5 base rb row' W (A ++ D) w' ∧ Turned rb row row' w w' := by
  have hs1 := h.s1
  have hs2 := h.s2
  obtain ⟨la, lc, last, tot, h1, h2, h3, h4⟩ := h.ex
  have hmn := h4.minlen
  have hck := ver_check hv (by omega) (by omega) hs1 hs2
  have hend := ver_end hv (by omega)
  have hlb : l.length ≤ D.length := ver_short hv
  have hll : (litsS D l).length ≤ 1000 := by
    have h5 := litsS_len (bs := D) (ver_planEnd (by rw [List.length_append]; omega) l 0 hv (Int.le_refl _) (by rw [List.length_append]; omega)) hend.2.2
    omega
  have HSi := hid (fun w' (hb : Below w.heap.size w w') => rgsize_any rb W _ tot w' (h1.below hb h1.lt) hs1)
  have HLe := hid (fun w' (hb : Below w.heap.size w w') => rglen_any rb W last.length lc la tot w' (h1.below hb h1.lt) hs1)
  rw [hmn] at HLe
  have HCk := hid (fun w' (hb : Below w.heap.size w w') => xcheck_ok l al cl (W : Int) ((min W A.length : Nat) : Int) ((litsS D l).length : Int) w' (by omega) (hc.low hb) (by omega) (by omega) (by omega) (by omega) (by omega) (by omega) hck (by omega) (by omega) (by omega))
  have HCl := hid (fun w' (hb : Below w.heap.size w w') => bclone_any ad c (litsS D l) w' (by omega) hq1 hq2 (hq3.low hb))
  have hrb := h.rb0
  have HFar := hid (fun b (hb : w.heap.size ≤ b) => h.far hb)
  have HRb := hid (show rb < w.heap.size from h1.lt)
  have HPi := hid (fun w' xb row' (hx : ExAt 66 5 106 base rb xb row' W A (litsS D l) w') (hb : Below w.heap.size w w') => xpieces_ok base rb xb row' A D W l al cl w' hx hv hD hA hl hlc (hc.low hb) hal)
  have HR := hid h
  have hs0 : ¬ (W : Int) = 0 := by omega
  have hb0 := Below.refl w.heap.size w
  clear h hv hD hA hl hlc hc hal hq1 hq2 hq3 h1 h2 h3 h4 hmn hck hend hlb hs1 hs2 hrb
  generalize hLs : litsS D l = L at *
  clear hLs
  generalize min W A.length = q at *
  go_enter Tryz.func26, Tryz.ntmps26
  go_wp2_with (go_at_call 49; refine (HSi.out _ hb0).mono ?_; rintro e w' ⟨rfl, rfl⟩)
  go_at_call 32
  refine (HLe.out _ hb0).mono ?_
  rintro e w1 ⟨rfl, m, rfl⟩
  have hb1 := below_drewN hb0 m
  clear hb0
  generalize w.drewN m = w1 at *
  dsimp only
  go_wp2_with (go_at_call 50; refine (HCk.out _ hb1).mono ?_; rintro e w2 ⟨rfl, hb2⟩)
  have hb3 := hb1.trans (hb2.mono hb1.size)
  clear hb1 hb2
  go_wp2_with (go_at_call 30; refine (HCl.out _ hb3).mono ?_; refine Hid.out ?_)
  refine hid ?_
  rintro e w4 ⟨v, rfl, hown, hb4⟩
  obtain ⟨av, cv, rfl⟩ := own_slice hown
  have hb5 := hb3.trans (hb4.mono hb3.size)
  have hbn := below_new w4 (.cells #[.pointer (some ⟨rb, 0, none⟩), .slice av L.length cv] 106)
  have hb6 := hb5.trans (hbn.mono hb5.size)
  have hx := Blk.new w4 [.pointer (some ⟨rb, 0, none⟩), .slice av L.length cv] 106
  have hpc : PcAt 5 rb w4.heap.size row (w4.alloc (.cells #[.pointer (some ⟨rb, 0, none⟩), .slice av L.length cv] 106)) av cv L := by
    refine pc_own (own_low hown hbn) rfl (fun k hk => ?_)
    have h5 := hown.lt k hk
    have h6 := HFar.out k (Nat.le_trans hb3.size h5.1)
    exact ⟨h6.1, by omega, h6.2⟩
  have HE := hid (show ExAt 66 5 106 base rb w4.heap.size row W A L (w4.alloc (.cells #[.pointer (some ⟨rb, 0, none⟩), .slice av L.length cv] 106)) from
    ⟨HR.out.below hb6, ⟨av, cv, hx, hpc⟩, by have := HR.out.rb0; have := HRb.out; have := hb5.size; omega, by decide, by decide⟩)
  have HB6 := hid hb6
  have HX := hid hb5.size
  clear hb3 hb4 hb5 hb6 hbn hx hpc hown
  go_wp2_with fail
  generalize w4.alloc (.cells #[.pointer (some ⟨rb, 0, none⟩), .slice av L.length cv] 106) = w5 at *
  generalize w4.heap.size = xb at *
  refine (HPi.out w5 xb row HE.out HB6.out).mono ?_
  rintro e w6 ⟨v, ps, row', rfl, hown, hps, hfl, hpn, hR, hT⟩
  have HO := hid (own_le hown HB6.out.size)
  have HP := hid (And.intro hps (And.intro hfl (And.intro hpn (And.intro hR (hT.turned HX.out HB6.out)))))
  clear hown hps hfl hpn hR hT HE HPi
  dsimp only
  go_wp2
  go_ret2
  obtain ⟨q1, q2, q3, q4, q5⟩ := HP.out
  exact ⟨_, ps, row', rfl, HO.out, fun p hp => ⟨(q1 p hp).1, (q1 p hp).2.1, (q1 p hp).2.2.1⟩, q2, q3, q4, q5⟩
set_option maxRecDepth 100000 in
set_option maxHeartbeats 1000000 in
theorem xrun_ok (base rb : Nat) (row : Option Nat) (A D : List UInt8) (W : Nat) (l : List Sq) (al ad : Option Addr) (cl c : Nat) (w : World) (h : RgAt 66 5 base rb row W A w) (hv : VerOk (A ++ D) A.length (W : Int) 0 l) (hD : D.length ≤ 1000) (hA : A.length ≤ 1000) (hl : l.length ≤ 1000) (hlc : l.length ≤ cl) (hc : CellsAt w al (l.flatMap sqc)) (hal : 0 < l.length → ∀ x, al = some x → x.block < base) (hq1 : (litsS D l).length ≤ c) (hq2 : ad = none → c = 0) (hq3 : CellsAt w ad ((litsS D l).map bv)) :
    Calls Tryz.prog 10 #[.pointer (some ⟨rb, 0, none⟩), .slice ad (litsS D l).length c, .slice al l.length cl, .int .i64 131072] w fun e w' => ∃ (v : Value) (row' : Option Nat), e = .returned (.tuple #[v, .int .i64 0]) ∧ w'.ownsRow w.heap.size 5 1 v D.length (D.map bv) ∧ RgAt 66 5 base rb row' W (A ++ D) w' ∧ Turned rb row row' w w' := by
  have HDo := hid (xdone_ok base rb row A D W l al ad cl c w h hv hD hA hl hlc hc hal hq1 hq2 hq3)
  have HD := hid hD
  clear h hv hD hA hl hlc hc hal hq1 hq2 hq3
  go_enter Tryz.func10, Tryz.ntmps10
  go_wp2_with (go_at_call 26; refine HDo.out.mono ?_; refine Hid.out ?_)
  refine hid ?_
  rintro e w1 ⟨v, ps, row', rfl, hown, hps, hfl, hpn, hR, hT⟩
  obtain ⟨av, cv, rfl⟩ := own_slice hown
  have HJ := hid (xjoin_ok ps av cv w1 hps (by rw [hfl]; have := HD.out; omega) hpn ((Sl.of_owns hown).cells' rfl))
  rw [hfl] at HJ
  have HR := hid hR
  have HT := hid hT
  clear hown hps hfl hpn hR hT HDo
  dsimp only
  go_wp2_with (go_at_call 27; refine HJ.out.mono ?_; refine Hid.out ?_)
  refine hid ?_
  rintro e w2 ⟨v, rfl, hown, hb⟩
  have HO := hid (own_le hown HT.out.size)
  have HR2 := hid (HR.out.below hb)
  have HT2 := hid (HT.out.low hb)
  clear hown hb HR HT HJ
  dsimp only
  go_wp2
  go_ret2
  exact ⟨_, row', rfl, HO.out, HR2.out, HT2.out⟩
theorem rglast_zero (base rb : Nat) (row : Option Nat) (size : Nat) (st : List UInt8) (w : World) (h : RgAt 66 5 base rb row size st w) :
    Calls Tryz.prog 11 #[.pointer (some ⟨rb, 0, none⟩), .int .i64 0] w fun e w' => e = .returned (.slice none 0 0) ∧ Below w.heap.size w w' := by
  have hs1 := h.s1
  obtain ⟨la, lc, last, tot, h1, h2, h3, h4⟩ := h.ex
  have HNo := hid (rgnone_any rb size _ tot w h1 hs1)
  clear h h1 h2 h3 h4 hs1
  go_enter Tryz.func11, Tryz.ntmps11
  go_wp2_with (go_at_call 29; refine HNo.out.mono ?_; rintro e w' ⟨rfl, rfl⟩)
  go_ret
  exact ⟨rfl, Below.refl _ _⟩
theorem rglast_data (base rb : Nat) (row : Option Nat) (A D : List UInt8) (W q : Nat) (w : World) (h : RgAt 66 5 base rb row W (A ++ D) w) (hq : q = D.length - W) :
    Calls Tryz.prog 11 #[.pointer (some ⟨rb, 0, none⟩), .int .i64 (D.length : Int)] w fun e w' => ∃ v, e = .returned v ∧ w'.ownsRow w.heap.size 5 1 v (D.length - q) ((D.drop q).map bv) ∧ Below w.heap.size w w' := by
  have hs := h.s1
  by_cases h0 : D.length = 0
  · obtain rfl : D = [] := List.eq_nil_of_length_eq_zero h0
    refine (rglast_zero base rb row W _ w h).mono ?_
    rintro e w' ⟨rfl, hb⟩
    refine ⟨_, rfl, ?_, hb⟩
    rw [List.drop_nil, List.length_nil, Nat.zero_sub]
    exact World.ownsRow_nil _ _ _ _
  · have hl : (A ++ D).length = A.length + D.length := List.length_append
    have := rglast_ok base rb row W D.length (D.length - q) (A ++ D) w h (by omega) (by omega) (by omega)
    rwa [show (A ++ D).length - (D.length - q) = A.length + q from by omega, ← List.drop_drop, List.drop_left] at this
end Go.Proofs.YtlgablepckmogaaGreat
