/-
  The walks of layer 28: Len.
-/
import Derived.Test.YtnmicfheekpnfaaMatchB
namespace Go.Proofs.Ytnmicfheekpnfaa
open Go.RowKit Go.Port

set_option maxRecDepth 100000 in
set_option maxHeartbeats 800000 in
theorem len_any (a : Option Addr) (c : Nat) (b : List UInt8) (pos frm most : Int) (w : World) (hb : b.length ≤ 1000000) (hbc : b.length ≤ c)
    (hc : ∀ j u, (b.map bv)[j]? = some u → ∃ bl off, a = some ⟨bl, off, none⟩ ∧ bl < w.heap.size ∧ w.cell? ⟨bl, off + j, none⟩ = some u) :
    Calls Try.prog 28 #[.slice a b.length c, .int .i64 pos, .int .i64 frm, .int .i64 most] w (RetV w (.int .i64 (lenS b pos frm most : Nat))) := by
  have HE := hid (fun W => earlier_any a b.length c pos frm W)
  have hB := below_new w (.cells #[.slice a b.length c, .int .i64 pos, .int .i64 most] 83)
  have HC := hid (fun W (hW : Below w.heap.size w W) j u (hu : (b.map bv)[j]? = some u) => (show ∃ bl off, a = some ⟨bl, off, none⟩ ∧ bl < W.heap.size ∧ W.cell? ⟨bl, off + j, none⟩ = some u from by
    obtain ⟨bl, off, h1, h2, h3⟩ := hc j u hu
    exact ⟨bl, off, h1, Nat.lt_of_lt_of_le h2 hW.size, (hW.cell (p := ⟨bl, off + j, none⟩) h2).trans h3⟩))
  have hP := Blk.new w [.slice a b.length c, .int .i64 pos, .int .i64 most] 83
  have HB := hid hB
  have HPl := hid hP
  clear hc hB hP
  unfold lenS
  cases he : earlierB b.length pos frm with
  | false =>
    rw [he] at HE
    clear he
    go_enter Try.func28, Try.ntmps28
    go_wp2_with fail
    refine (HE.out _).mono ?_
    rintro e w1 ⟨rfl, hb1⟩
    have HB1 := hid (HB.out.trans (hb1.mono HB.out.size))
    clear hb1
    go_wp2
    go_ret
    exact ⟨by simp, HB1.out⟩
  | true =>
    rw [he] at HE
    obtain ⟨p, q, rfl, rfl, hqp, hpn⟩ := earlier_iff he
    clear he
    simp only [Int.toNat_natCast, if_true]
    go_enter Try.func28, Try.ntmps28
    go_wp2_with fail
    refine (HE.out _).mono ?_
    rintro e w1 ⟨rfl, hb1⟩
    have hbl := HPl.out.below hb1 HPl.out.lt
    have HB1 := hid (HB.out.trans (hb1.mono HB.out.size))
    have hc0 := hbl.cell (k := 0) rfl
    have hc1 := hbl.cell (k := 1) rfl
    have hc2 := hbl.cell (k := 2) rfl
    have HL := hid (length_any a c p q b most w1 hb hbc hqp hpn (HC.out w1 HB1.out))
    clear hb1 hbl
    go_wp2_with fail
    refine HL.out.mono ?_
    rintro e w2 ⟨rfl, hb2⟩
    have HB2 := hid (HB1.out.trans (hb2.mono HB1.out.size))
    clear hb2
    go_wp2
    go_ret
    exact ⟨rfl, HB2.out⟩

end Go.Proofs.Ytnmicfheekpnfaa
