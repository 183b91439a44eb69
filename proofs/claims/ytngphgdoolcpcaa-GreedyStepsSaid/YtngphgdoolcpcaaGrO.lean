/-
  The walks of layer 30: the iterator's maker; the reference's positions of the matches.
-/
import Derived.Test.YtngphgdoolcpcaaGrN
import Derived.Test.YtngphgdoolcpcaaPlanAll
import Derived.Test.YtngphgdoolcpcaaGrM
namespace Go.Proofs.Ytngphgdoolcpcaa
open Go.RowKit Go.Port

set_option maxRecDepth 100000 in
set_option maxHeartbeats 4000000 in
theorem gst_any (bs : List UInt8) (A : Nat) (W D : Int) (F : Nat) (least : Int) (w : World) (h : FdAt 57 119 bs A W D F w) :
    Calls Try.prog 23 #[.pointer (some ⟨F, 0, none⟩), .int .i64 least] w fun e w' => ∃ g a c, e = .returned (.func (.func 35) #[] #[.pointer (some ⟨g, 0, none⟩)]) ∧ w.heap.size ≤ g ∧ Blk w' g [.slice a (fromL bs A W D 0 least).length c] 68 ∧ CellsAt w' a ((fromL bs A W D 0 least).flatMap stc) ∧ Below w.heap.size w w' := by
  by_cases he : fromE bs A 0 least = 0
  · have HSt := hid (gsteps_ok bs A W D F 0 least w h he)
    clear h he
    generalize fromL bs A W D 0 least = L at *
    go_enter Try.func23, Try.ntmps23
    go_wp2_with fail
    refine HSt.out.mono ?_
    rintro e w1 ⟨v, rfl, hown, hb1⟩
    obtain ⟨av, cv, rfl⟩ := own_slice hown
    have hcl := (Sl.of_owns hown).cells' rfl
    have HC := hid (hcl.low (below_new w1 (.cells #[.slice av L.length cv] 68)))
    have HS := hid hb1.size
    have HB1 := hid (hb1.alloc hb1.size (.cells #[.slice av L.length cv] 68))
    clear hown hcl hb1 HSt
    go_wp2
    go_ret
    exact ⟨_, _, _, rfl, HS.out, Blk.new w1 [.slice av L.length cv] _, HC.out, HB1.out⟩
  · have HSt := hid (gsteps_bad bs A W D F 0 least w h he)
    have hl : fromL bs A W D 0 least = [] := by unfold fromL; rw [if_neg he]
    rw [hl]
    clear h he hl
    go_enter Try.func23, Try.ntmps23
    go_wp2_with fail
    refine HSt.out.mono ?_
    rintro e w1 ⟨rfl, m, rfl⟩
    have HB := hid (below_drewN (Below.refl w.heap.size w) m)
    have HS := hid (show w.heap.size ≤ (w.drewN m).heap.size from Nat.le_refl _)
    generalize w.drewN m = w1 at *
    have HB1 := hid (HB.out.alloc HB.out.size (.cells #[.slice none 0 0] 68))
    go_wp2
    go_ret
    exact ⟨_, _, _, rfl, HS.out, Blk.new w1 [.slice none 0 0] _, fun j u hu => by simp at hu, HB1.out⟩

set_option maxRecDepth 100000 in
theorem gst_none (q : Option Addr) (least : Int) (w : World) (h : NoFd q w) :
    Calls Try.prog 23 #[.pointer q, .int .i64 least] w fun e w' => ∃ g, e = .returned (.func (.func 35) #[] #[.pointer (some ⟨g, 0, none⟩)]) ∧ w.heap.size ≤ g ∧ Blk w' g [.slice none 0 0] 68 ∧ Below w.heap.size w w' := by
  have HSt := hid (gsteps_none q 0 least w h)
  clear h
  go_enter Try.func23, Try.ntmps23
  go_wp2_with fail
  refine HSt.out.mono ?_
  rintro e w1 ⟨rfl, rfl⟩
  go_wp2
  go_ret
  exact ⟨_, rfl, Nat.le_refl _, Blk.new w [.slice none 0 0] _, below_new w _⟩

set_option maxRecDepth 100000 in
set_option maxHeartbeats 4000000 in
theorem rmatches_any (a : Option Addr) (c : Nat) (l : List Sq) (w : World) (hl : l.length ≤ 1000000) (hc : CellsAt w a (l.flatMap sqc)) (hs : ∀ s ∈ l, 0 ≤ s.lit ∧ 0 ≤ s.len) (he : ∀ k, k ≤ l.length → 0 ≤ endOf 0 (l.take k) ∧ endOf 0 (l.take k) ≤ 1000000) :
    Calls Try.prog 22 #[.slice a l.length c] w fun e w' => ∃ v, e = .returned v ∧ w'.ownsRow w.heap.size 3 1 v l.length ((posOf 0 l).map iv) ∧ Below w.heap.size w w' := by
  have HC := hid hc
  have HS := hid hs
  have HE := hid he
  clear hc hs he
  go_enter Try.func22, Try.ntmps22
  go_wp2
  go_loopw [3, 4, 5] (fun v t i wr => ∃ k : Nat, k ≤ l.length ∧ i = .int .i64 k ∧ t = .int .i64 (endOf 0 (l.take k)) ∧ wr.ownsRow w.heap.size 3 1 v k ((posOf 0 (l.take k)).map iv) ∧ Below w.heap.size w wr) (fun _ _ i _ => l.length - (intOf i).toNat)
  case atStart => exact ⟨0, Nat.zero_le _, rfl, rfl, World.ownsRow_nil _ _ _ _, Below.refl _ _⟩
  case round =>
    obtain ⟨k, hk, rfl, rfl, hown, hB⟩ := hrel
    have HO := hid hown
    have HB := hid hB
    have hbs := hB.size
    by_cases hlt : k < l.length
    · obtain ⟨x, hx⟩ : ∃ x, l[k]? = some x := ⟨l[k], by simp [hlt]⟩
      obtain ⟨bl, off, rfl, hb0, c0⟩ := (HC.out.low hB) (k * 3 + 0) (.int .i64 x.lit) (by rw [sqc_get hx 0 (by omega)]; rfl)
      obtain ⟨_, _, e1, _, c1⟩ := (HC.out.low hB) (k * 3 + 1) (.int .i64 x.len) (by rw [sqc_get hx 1 (by omega)]; rfl)
      cases e1
      rw [Nat.add_zero] at c0
      rw [← Nat.add_assoc] at c1
      have HCk := hid (show ∀ W', Below w.heap.size w W' → bl < W'.heap.size ∧ W'.cell? ⟨bl, off + k * 3, none⟩ = some (.int .i64 x.lit) ∧ W'.cell? ⟨bl, off + k * 3 + 1, none⟩ = some (.int .i64 x.len) from fun W' hW => by
        obtain ⟨_, _, e1, h1, d0⟩ := (HC.out.low hW) (k * 3 + 0) (.int .i64 x.lit) (by rw [sqc_get hx 0 (by omega)]; rfl)
        cases e1
        obtain ⟨_, _, e1, _, d1⟩ := (HC.out.low hW) (k * 3 + 1) (.int .i64 x.len) (by rw [sqc_get hx 1 (by omega)]; rfl)
        cases e1
        exact ⟨h1, by rw [Nat.add_zero] at d0; exact d0, by rw [← Nat.add_assoc] at d1; exact d1⟩)
      have hst := take_next hx
      have hpo : posOf 0 (l.take (k + 1)) = posOf 0 (l.take k) ++ [endOf 0 (l.take k) + x.lit] := by rw [hst, posOf_snoc]
      have hen : endOf 0 (l.take (k + 1)) = endOf 0 (l.take k) + x.lit + x.len := by rw [hst, endOf_snoc]
      have h1 := HE.out k hk
      have h2 := HE.out (k + 1) hlt
      have h3 := HS.out x (List.mem_of_getElem? hx)
      obtain ⟨av, cv, rfl⟩ := own_slice hown
      obtain ⟨xl, xn, xo⟩ := x
      dsimp only at c0 c1 hen h3 hpo HCk
      have HPo := hid hpo
      generalize endOf 0 (l.take k) = e0 at *
      generalize hE1 : endOf 0 (l.take (k + 1)) = e1 at *
      have hw2 : IntKind.i64.wrap (e0 + xl) = e0 + xl := by rw [IntKind.wrap_i64]; omega
      have hw3 : IntKind.i64.wrap (e0 + xl + xn) = e1 := by rw [IntKind.wrap_i64]; omega
      have HE1 := hid hE1
      have HK := hid hlt
      have hbl2 : bl < wr.heap.size := hb0
      have hkI : (k : Int) < (l.length : Int) := by omega
      clear hE1 hen h1 h2 h3 hpo hst hx hk hlt hown hB
      go_wp2_with (at_builtin; refine Hid.out ?_)
      refine hid ?_
      refine wpList_append1 rfl _ _ 49 rfl 3 _ 1 8 Try.underlying49 Try.info_int rfl (by decide) (by decide) _ w.heap.size _ _ _ [.int .i64 (e0 + xl)] rfl ?hu rfl rfl (by exact HO.out) ?hn hbs ?hk
      case hu => simp [Value.oneCell']
      case hn => have := HK.out; omega
      case hk =>
        intro v' w3 hown' hg
        have hbg := below_grown HO.out hg hbs
        have HB3 := hid (HB.out.trans hbg)
        have HO3 := hid hown'
        obtain ⟨hbl3, c0, c1⟩ := HCk.out w3 HB3.out
        have HD := hid (fun m => And.intro (HB3.out.trans ((below_drewN (Below.refl w3.heap.size w3) m).mono HB3.out.size)) (own_le (own_low HO3.out (below_drewN (Below.refl w3.heap.size w3) m)) (Nat.le_refl _)))
        clear hown' hg hbg hbs HB HO hbl2
        go_wp2_with fail
        go_quiet (fail)
        go_wp2
        go_roundw
        case rel => exact ⟨k + 1, HK.out, by go_num, by rw [HE1.out], by rw [HPo.out, List.map_append]; exact (HD.out _).2, (HD.out _).1⟩
        case measure => have := HK.out; simp [intOf]; omega
    · obtain rfl : k = l.length := by omega
      rw [List.take_of_length_le (Nat.le_refl _)] at HO
      clear hown hB
      go_wp2
      go_ret
      exact ⟨_, rfl, HO.out, HB.out⟩
end Go.Proofs.Ytngphgdoolcpcaa
