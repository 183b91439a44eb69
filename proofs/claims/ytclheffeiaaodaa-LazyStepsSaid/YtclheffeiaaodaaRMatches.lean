/-
  The walk of the reference of layer 30: the positions of the matches.
-/
import Derived.Test.YtclheffeiaaodaaPlanFrom
import Derived.Test.YtclheffeiaaodaaMem
import Derived.Test.YtclheffeiaaodaaIx
namespace Go.Proofs.Ytclheffeiaaodaa
open Go.RowKit Go.Port

set_option maxRecDepth 100000 in
set_option maxHeartbeats 4000000 in
theorem rmatches_any (a : Option Addr) (c : Nat) (l : List Sq) (w : World) (hl : l.length ≤ 1000000) (hc : CellsAt w a (l.flatMap sqc)) (hs : ∀ s ∈ l, 0 ≤ s.lit ∧ 0 ≤ s.len) (he : ∀ k, k ≤ l.length → 0 ≤ endOf 0 (l.take k) ∧ endOf 0 (l.take k) ≤ 1000000) :
    Calls Try.prog 26 #[.slice a l.length c] w fun e w' => ∃ v, e = .returned v ∧ w'.ownsRow w.heap.size 3 1 v l.length ((posOf 0 l).map iv) ∧ Below w.heap.size w w' := by
  have HC := hid hc
  have HS := hid hs
  have HE := hid he
  clear hc hs he
  go_enter Try.func26, Try.ntmps26
  go_wp2
  go_loopw [3, 4, 5] (fun v t i wr => ∃ k : Nat, k ≤ l.length ∧ i = .int .i64 k ∧ t = .int .i64 (endOf 0 (l.take k)) ∧ wr.ownsRow w.heap.size 3 1 v k ((posOf 0 (l.take k)).map iv) ∧ Below w.heap.size w wr) (fun _ _ i _ => l.length - (intOf i).toNat)
  case atStart => exact ⟨0, Nat.zero_le _, rfl, rfl, World.ownsRow_nil _ _ _ _, Below.refl _ _⟩
  case round =>
    obtain ⟨k, hk, rfl, rfl, hown, hB⟩ := hrel
    have HO := hid hown
    have HB := hid hB
    have hbs := hB.size
    by_cases hlt : k < l.length
    · obtain ⟨x, hx⟩ : ∃ x, l[k]? = some x := ⟨l[k], by simp [hlt]⟩
      obtain ⟨bl, off, rfl, hb0, c0⟩ := (HC.out.low hB) (k * 3 + 0) (.int .i64 x.lit) (by rw [sqc_get hx 0 (by omega)]; rfl)
      obtain ⟨_, _, e1, _, c1⟩ := (HC.out.low hB) (k * 3 + 1) (.int .i64 x.len) (by rw [sqc_get hx 1 (by omega)]; rfl)
      cases e1
      rw [Nat.add_zero] at c0
      rw [← Nat.add_assoc] at c1
      have HCk := hid (show ∀ W', Below w.heap.size w W' → bl < W'.heap.size ∧ W'.cell? ⟨bl, off + k * 3, none⟩ = some (.int .i64 x.lit) ∧ W'.cell? ⟨bl, off + k * 3 + 1, none⟩ = some (.int .i64 x.len) from fun W' hW => by
        obtain ⟨_, _, e1, h1, d0⟩ := (HC.out.low hW) (k * 3 + 0) (.int .i64 x.lit) (by rw [sqc_get hx 0 (by omega)]; rfl)
        cases e1
        obtain ⟨_, _, e1, _, d1⟩ := (HC.out.low hW) (k * 3 + 1) (.int .i64 x.len) (by rw [sqc_get hx 1 (by omega)]; rfl)
        cases e1
        exact ⟨h1, by rw [Nat.add_zero] at d0; exact d0, by rw [← Nat.add_assoc] at d1; exact d1⟩)
      have hst := take_next hx
      have hpo : posOf 0 (l.take (k + 1)) = posOf 0 (l.take k) ++ [endOf 0 (l.take k) + x.lit] := by rw [hst, posOf_snoc]
      have hen : endOf 0 (l.take (k + 1)) = endOf 0 (l.take k) + x.lit + x.len := by rw [hst, endOf_snoc]
      have h1 := HE.out k hk
      have h2 := HE.out (k + 1) hlt
      have h3 := HS.out x (List.mem_of_getElem? hx)
      obtain ⟨av, cv, rfl⟩ := own_slice hown
      obtain ⟨xl, xn, xo⟩ := x
      dsimp only at c0 c1 hen h3 hpo HCk
      have HPo := hid hpo
      generalize endOf 0 (l.take k) = e0 at *
      generalize hE1 : endOf 0 (l.take (k + 1)) = e1 at *
      have hw2 : IntKind.i64.wrap (e0 + xl) = e0 + xl := by rw [IntKind.wrap_i64]; omega
      have hw3 : IntKind.i64.wrap (e0 + xl + xn) = e1 := by rw [IntKind.wrap_i64]; omega
      have HE1 := hid hE1
      have HK := hid hlt
      have hbl2 : bl < wr.heap.size := hb0
      have hkI : (k : Int) < (l.length : Int) := by omega
      clear hE1 hen h1 h2 h3 hpo hst hx hk hlt hown hB
      go_wp2_with (at_builtin; refine Hid.out ?_)
      refine hid ?_
      refine wpList_append1 rfl _ _ 38 rfl 3 _ 1 8 Try.underlying38 Try.info_int rfl (by decide) (by decide) _ w.heap.size _ _ _ [.int .i64 (e0 + xl)] rfl ?hu rfl rfl (by exact HO.out) ?hn hbs ?hk
      case hu => simp [Value.oneCell']
      case hn => have := HK.out; omega
      case hk =>
        intro v' w3 hown' hg
        have hbg := below_grown HO.out hg hbs
        have HB3 := hid (HB.out.trans hbg)
        have HO3 := hid hown'
        obtain ⟨hbl3, c0, c1⟩ := HCk.out w3 HB3.out
        have HD := hid (fun m => And.intro (HB3.out.trans ((below_drewN (Below.refl w3.heap.size w3) m).mono HB3.out.size)) (own_le (own_low HO3.out (below_drewN (Below.refl w3.heap.size w3) m)) (Nat.le_refl _)))
        clear hown' hg hbg hbs HB HO hbl2
        go_wp2_with fail
        go_quiet (fail)
        go_wp2
        go_roundw
        case rel => exact ⟨k + 1, HK.out, by go_num, by rw [HE1.out], by rw [HPo.out, List.map_append]; exact (HD.out _).2, (HD.out _).1⟩
        case measure => have := HK.out; simp [intOf]; omega
    · obtain rfl : k = l.length := by omega
      rw [List.take_of_length_le (Nat.le_refl _)] at HO
      clear hown hB
      go_wp2
      go_ret
      exact ⟨_, rfl, HO.out, HB.out⟩
end Go.Proofs.Ytclheffeiaaodaa
