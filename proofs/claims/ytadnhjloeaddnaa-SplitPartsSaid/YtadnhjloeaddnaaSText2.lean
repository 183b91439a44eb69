/-
  The bytes of a text, walked: a slice of at most 'most' bytes, whatever the text.
-/
import Derived.Test.YtadnhjloeaddnaaSText
namespace Go.Proofs.Ytadnhjloeaddnaa
open Go.RowKit Go.Port

/-- What the method hands back: a slice of at most 'most' bytes in memory of the call's own, and whether it is of use. -/
def RetText (w : World) (most : Nat) (e : Ending) (w' : World) : Prop :=
  ∃ v fine, ∃ bs : List UInt8, e = .returned (.tuple #[v, .bool fine]) ∧ Sl w' 1 v bs.length (bs.map bv) ∧ bs.length ≤ most ∧ Below w.heap.size w w'

theorem RetText.no (w w' : World) (most : Nat) (hb : Below w.heap.size w w') : RetText w most (.returned (.tuple #[.slice none 0 0, .bool false])) w' :=
  ⟨_, _, [], rfl, Sl.nil _ _, Nat.zero_le _, hb⟩

theorem sl_take {w : World} {B n : Nat} {e : TypeId} {v : Value} {bs : List UInt8} (h : w.ownsRow B e 1 v n (bs.map bv)) (k : Nat) (hk : k ≤ n) : ∃ a c, v = .slice a n c ∧ n ≤ c ∧ (a = none → c = 0) ∧ Sl w 1 (.slice a k c) (bs.take k).length ((bs.take k).map bv) := by
  have hl : bs.length = n := by
    have := h.1
    simpa using this
  have hs := Sl.of_owns h
  obtain ⟨h0, a, c, hv, h1, h2, h3, h4⟩ := hs
  have hlt : (bs.take k).length = k := by rw [List.length_take]; omega
  refine ⟨a, c, hv, h1, h3, by simp, a, c, by rw [hlt], by omega, h2, h3, fun b off sp ha => ?_⟩
  obtain ⟨k1, k2, k3⟩ := h4 b off sp ha
  refine ⟨k1, k2, fun j u hu => k3 j u ?_⟩
  rw [List.map_take] at hu
  rw [List.getElem?_take] at hu
  split at hu
  · exact hu
  · cases hu

set_option maxRecDepth 100000 in
set_option maxHeartbeats 4000000 in
theorem bytes_any (w : World) (v : Value) (most : Nat) (hm : most ≤ 100000) (hv : TextAt w v) :
    Calls Try.prog 11 #[v, .int .i64 most] w (RetText w most) := by
  obtain ⟨a, n, c, rfl, hnc, hcm, hel⟩ := hv
  have HE := hid hel
  have HB0 := hid (below_new w (.cells #[.slice a n c] 24))
  have HA0 := hid (Blk.new w [.slice a n c] 24)
  clear hel
  unfold maxLen at hcm
  by_cases h6 : 6 < n
  · go_enter Try.func11, Try.ntmps11
    go_wp2
    go_ret2
    exact RetText.no _ _ _ HB0.out
  · go_enter Try.func11, Try.ntmps11
    go_wp2
    go_loopw [6, 7] (fun v i wr => ∃ (k : Nat) (bs : List UInt8), k ≤ n ∧ i = .int .i64 k ∧ wr.ownsRow (w.heap.size + 1) 5 1 v bs.length (bs.map bv) ∧ bs.length ≤ most + 40 ∧ Blk wr w.heap.size [.slice a n c] 24 ∧ Below w.heap.size w wr) (fun _ i _ => n - (intOf i).toNat)
    case atStart => exact ⟨0, [], Nat.zero_le _, rfl, World.ownsRow_nil _ _ _ _, Nat.zero_le _, HA0.out, HB0.out⟩
    case round =>
      obtain ⟨k, bs, hk, rfl, hown, hbl, hA, hB⟩ := hrel
      have hca := hA.cell (k := 0) rfl
      have hsz := hA.lt
      by_cases hlt : k < n
      · obtain ⟨b, off, vb, bsB, m, rfl, hb, hc1, hc2, hR, hm16⟩ := HE.out k hlt
        obtain ⟨_, ab, cb, rfl, hbn, hbm, hab, hbcell⟩ := hR
        have hc1' := (hB.cell (p := ⟨b, off + k * 2, none⟩) hb).trans hc1
        have hc2' := (hB.cell (p := ⟨b, off + k * 2 + 1, none⟩) hb).trans hc2
        have hA1 := hA.alloc (.cells #[.slice ab bsB.length cb, .int .u16 m] 60)
        have hP1 := Blk.new wr [.slice ab bsB.length cb, .int .u16 m] 60
        have hB1 := hB.alloc (Nat.le_of_lt hsz) (.cells #[.slice ab bsB.length cb, .int .u16 m] 60)
        have hO1 := hown.alloc (.cells #[.slice ab bsB.length cb, .int .u16 m] 60)
        have HBC := hid hbcell
        have HH := hid (And.intro hA1 (And.intro hP1 (And.intro hB1 hO1)))
        have HK := hid hlt
        have hs1 : wr.heap.size + 1 ≤ (wr.alloc (.cells #[.slice ab bsB.length cb, .int .u16 m] 60)).heap.size := by simp
        clear hc1 hc2 hbcell hA1 hP1 hB1 hO1 hown hA hB
        by_cases h40 : 40 < bsB.length
        · go_wp2
          go_ret2
          exact RetText.no _ _ _ HH.out.2.2.1
        · go_wp2
          go_loopw [6, 9] (fun v j wr2 => ∃ (q : Nat) (bs2 : List UInt8), q ≤ 65535 ∧ j = .int .i64 q ∧ wr2.ownsRow (w.heap.size + 1) 5 1 v bs2.length (bs2.map bv) ∧ bs2.length ≤ most + 40 ∧ Blk wr2 w.heap.size [.slice (some ⟨b, off, none⟩) n c] 24 ∧ Blk wr2 wr.heap.size [.slice ab bsB.length cb, .int .u16 m] 60 ∧ Below w.heap.size w wr2) (fun _ j _ => 65535 - (intOf j).toNat)
          case atStart => exact ⟨0, bs, Nat.zero_le _, rfl, HH.out.2.2.2, hbl, HH.out.1, HH.out.2.1, HH.out.2.2.1⟩
          case round =>
            obtain ⟨q, bs2, hq, rfl, hown2, hbl2, hA2, hP2, hB2⟩ := hrel
            obtain ⟨ov, oc, rfl⟩ := own_slice hown2
            have hp0 := hP2.cell (k := 0) rfl
            have hp1 := hP2.cell (k := 1) rfl
            have hsz2 := hA2.lt
            by_cases h1 : q < m
            · by_cases h2 : bs2.length < most
              · by_cases h3 : 0 < bsB.length
                · have HQ := hid h1
                  have HP2 := hid hP2
                  go_wp2_with (at_builtin; refine Hid.out ?_)
                  refine hid ?_
                  refine wpList_appends rfl _ _ 25 rfl 5 _ 1 Try.underlying25 Try.info_byte rfl (by decide) _ (w.heap.size + 1) _ bs2.length bsB.length cb ab (bs2.map bv) (bsB.map bv) (by simp) ?hu rfl rfl hbn hab ?hc (by exact hown2) ?hn ?hb ?hk
                  case hu =>
                    intro u hu
                    obtain ⟨x, _, rfl⟩ := List.mem_map.1 hu
                    rfl
                  case hc =>
                    intro j u hu
                    obtain ⟨b', off', e1, e2, e3⟩ := HBC.out j u hu
                    exact ⟨b', off', e1, Nat.lt_of_lt_of_le e2 hB2.size, (hB2.cell (p := ⟨b', off' + j, none⟩) e2).trans e3⟩
                  case hn => omega
                  case hb => omega
                  case hk =>
                    intro v' w1 hown' hg
                    have hA3 := hA2.grown hg (hA2.not_row hown2 (by decide))
                    have hP3 := hP2.grown hg (hP2.not_row hown2 (by decide))
                    have hB3 : Below w.heap.size w w1 := hB2.grown hg (by omega) (fun g hg' => by
                      have := (hown2.lt g hg').1
                      omega)
                    go_wp2
                    go_roundw
                    case rel => exact ⟨q + 1, bs2 ++ bsB, by omega, by go_num, by rw [List.map_append, List.length_append]; exact hown', by rw [List.length_append]; omega, hA3, hP3, hB3⟩
                    case measure => simp [intOf]; omega
                · go_wp2
                  go_roundw
                  case rel => exact ⟨k + 1, bs2, HK.out, by go_num, hown2, hbl2, hA2, hB2⟩
                  case measure =>
                    have := HK.out
                    simp [intOf]; omega
              · go_wp2
                go_roundw
                case rel => exact ⟨k + 1, bs2, HK.out, by go_num, hown2, hbl2, hA2, hB2⟩
                case measure =>
                  have := HK.out
                  simp [intOf]; omega
            · go_wp2
              go_roundw
              case rel => exact ⟨k + 1, bs2, HK.out, by go_num, hown2, hbl2, hA2, hB2⟩
              case measure =>
                have := HK.out
                simp [intOf]; omega
      · obtain rfl : k = n := by omega
        obtain ⟨v', c', rfl⟩ := own_slice hown
        have hown' := hown
        obtain ⟨_, _, e1, hn1, _, hS⟩ := sl_take hown (min bs.length most) (Nat.min_le_left _ _)
        cases e1
        have HS := hid hS
        have HB := hid hB
        clear hS hB hown hown'
        go_wp2
        go_ret2
        refine ⟨_, _, bs.take (min bs.length most), rfl, ?_, by rw [List.length_take]; omega, HB.out⟩
        have hmin : (min (bs.length : Int) (most : Int)).toNat = min bs.length most := by omega
        show Sl wr 1 (.slice v' (min (bs.length : Int) (most : Int)).toNat c') _ _
        rw [hmin]
        exact HS.out
end Go.Proofs.Ytadnhjloeaddnaa
