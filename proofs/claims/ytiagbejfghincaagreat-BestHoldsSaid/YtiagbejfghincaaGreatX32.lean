/-
  The walks of layer 28, eleventh part: the increasing matches.
  The walks of layer 28, for the comparison with the reference: the reference's increasing matches.
  Plain laws of layer 30: the greedy plan as it is handed back; its steps; steps in memory.
-/
import Derived.Test.YtiagbejfghincaaGreatX31
import Derived.Test.YtiagbejfghincaaGreatX27
import Derived.Test.YtiagbejfghincaaGreatX08
import Derived.Test.YtiagbejfghincaaGreatX30
import Derived.Test.YtiagbejfghincaaGreatX25
import Derived.Deep.RegionHeld3
namespace Go.Port
open Go.RowKit
def scanL (l : List Sq) : Int := ((scanGo 2 l).getLastD ⟨0, 2, 0⟩).len
theorem scan_step {l : List Sq} {k : Nat} {x : Sq} (h : l[k]? = some x) :
    scanGo 2 (l.take (k + 1)) = scanGo 2 (l.take k) ++ (if scanL (l.take k) < x.len then [x] else []) := by
  obtain ⟨h1, h2⟩ := List.getElem?_eq_some_iff.1 h
  rw [List.take_succ_eq_append_getElem h1, h2, scanGo_append]
  congr 1
theorem scanL_step {l : List Sq} {k : Nat} {x : Sq} (h : l[k]? = some x) : scanL (l.take (k + 1)) = if scanL (l.take k) < x.len then x.len else scanL (l.take k) := by
  have e := scan_step h
  show ((scanGo 2 (l.take (k + 1))).getLastD ⟨0, 2, 0⟩).len = _
  rw [e]
  by_cases hh : scanL (l.take k) < x.len
  · rw [if_pos hh, if_pos hh]
    simp
  · rw [if_neg hh, if_neg hh, List.append_nil]
    rfl
theorem scanGo_length (l : List Sq) : ∀ n : Int, (scanGo n l).length ≤ l.length := by
  induction l with
  | nil => intro n; exact Nat.le_refl _
  | cons x r ih =>
    intro n
    unfold scanGo
    split
    · simp only [List.length_cons]; have := ih x.len; omega
    · simp only [List.length_cons]; have := ih n; omega
theorem matches_off {b : List UInt8} {pos most : Int} {frm : List Int} (hb : b.length ≤ 1000000) : ∀ s ∈ matchesS b pos most frm, 0 ≤ s.off ∧ s.off ≤ 1000000000 := by
  intro s hs
  obtain ⟨x, _, he, rfl⟩ := matchesS_mem hs
  simp only [earlierB, Bool.and_eq_true, decide_eq_true_eq] at he
  exact ⟨by show (0 : Int) ≤ pos - x; omega, by show pos - x ≤ (1000000000 : Int); omega⟩
end Go.Port
namespace Go.Proofs.YtiagbejfghincaaGreat
open Go.RowKit Go.Port
set_option maxRecDepth 100000 in
set_option maxHeartbeats 2000000 in
theorem increasing_any (a a2 : Option Addr) (c c2 : Nat) (b : List UInt8) (pos most : Int) (frm : List Int) (w : World) (hb : b.length ≤ 1000000) (hbc : b.length ≤ c) (hf : frm.length ≤ 100000)
    (hc : ∀ j u, (b.map bv)[j]? = some u → ∃ bl off, a = some ⟨bl, off, none⟩ ∧ bl < w.heap.size ∧ w.cell? ⟨bl, off + j, none⟩ = some u)
    (hc2 : ∀ j u, (frm.map iv)[j]? = some u → ∃ bl off, a2 = some ⟨bl, off, none⟩ ∧ bl < w.heap.size ∧ w.cell? ⟨bl, off + j, none⟩ = some u) :
    Calls Tryz.prog 100 #[.slice a b.length c, .int .i64 pos, .int .i64 most, .slice a2 frm.length c2] w fun e w' => ∃ v, e = .returned v ∧ w'.ownsRow w.heap.size 44 3 v (incS b pos most frm).length ((incS b pos most frm).flatMap sqc) ∧ Below w.heap.size w w' := by
  have HM := hid (matches_any a a2 c c2 b pos most frm w hb hbc hf hc hc2)
  have hml := matchesS_length b pos most frm
  have HOFF := hid (matches_off (b := b) (pos := pos) (most := most) (frm := frm) hb)
  have HINC := hid (fun (l : List Sq) (hp : l.Perm (matchesS b pos most frm)) (hs : ByOff l) => (show scanGo 2 l = incS b pos most frm from (rise_eq b pos most frm l hp hs (frm.length + 1) (by have := hp.length_eq; omega)).symm))
  generalize incS b pos most frm = R at *
  generalize matchesS b pos most frm = l at *
  clear hc hc2
  go_enter Tryz.func100, Tryz.ntmps100
  go_wp2_with fail
  refine HM.out.mono ?_
  rintro e w1 ⟨v, rfl, hown, hb1⟩
  have HSO := hid (sort_own (w.heap.size + 1) v l w1 HOFF.out (by omega) hown)
  have HB1 := hid hb1
  clear hown hb1 HM
  go_wp2_with fail
  refine HSO.out.mono ?_
  rintro e w2 ⟨rfl, l2, hp, hs, hown, hb2⟩
  obtain ⟨av, cv, rfl⟩ := own_slice hown
  have HB2 := hid (HB1.out.trans (hb2.mono (Nat.le_succ _)))
  have HR := hid (HINC.out l2 hp hs)
  have hl2 : l2.length ≤ 100000 := by have := hp.length_eq; omega
  have HC := hid (fun W (hW : Below w2.heap.size w2 W) j u (hu : (l2.flatMap sqc)[j]? = some u) => (show ∃ bl off, av = some ⟨bl, off, none⟩ ∧ bl < W.heap.size ∧ W.cell? ⟨bl, off + j, none⟩ = some u from by
    obtain ⟨_, _, e, _, _, _, h⟩ := ((Sl.of_owns hown).below hW).open
    cases e
    exact h j u hu))
  clear hp hs hown hb2 HB1 HSO HINC HOFF
  go_wp2
  go_loopw [8, 10, 22] (fun v8 v10 i wr => ∃ k : Nat, k ≤ l2.length ∧ i = .int .i64 k ∧ v10 = .int .i64 (scanL (l2.take k)) ∧ wr.ownsRow w2.heap.size 44 3 v8 (scanGo 2 (l2.take k)).length ((scanGo 2 (l2.take k)).flatMap sqc) ∧ Below w2.heap.size w2 wr) (fun _ _ i _ => l2.length - (intOf i).toNat)
  case atStart => exact ⟨0, Nat.zero_le _, rfl, rfl, World.ownsRow_nil _ _ _ _, Below.refl _ _⟩
  case round =>
    obtain ⟨k, hk, rfl, rfl, hown, hB⟩ := hrel
    by_cases hlt : k < l2.length
    · obtain ⟨x, hx⟩ : ∃ x, l2[k]? = some x := ⟨l2[k], by simp [hlt]⟩
      have HST := hid (scan_step hx)
      have HSL := hid (scanL_step hx)
      have hsl := scanGo_length (l2.take k) 2
      rw [List.length_take] at hsl
      obtain ⟨bl, off, rfl, hb0, c0⟩ := HC.out wr hB (k * 3 + 0) (.int .i64 x.lit) (by rw [sqc_get hx 0 (by omega)]; rfl)
      obtain ⟨bl1, off1, e1, _, c1⟩ := HC.out wr hB (k * 3 + 1) (.int .i64 x.len) (by rw [sqc_get hx 1 (by omega)]; rfl)
      cases e1
      obtain ⟨bl2, off2, e2, _, c2⟩ := HC.out wr hB (k * 3 + 2) (.int .i64 x.off) (by rw [sqc_get hx 2 (by omega)]; rfl)
      cases e2
      rw [Nat.add_zero] at c0
      rw [← Nat.add_assoc] at c1 c2
      have hkI : (k : Int) < (l2.length : Int) := by omega
      have hBa := hB.alloc hB.size (.cells #[.int .i64 x.lit, .int .i64 x.len, .int .i64 x.off] 44)
      have HO := hid (own_low hown (below_new wr (.cells #[.int .i64 x.lit, .int .i64 x.len, .int .i64 x.off] 44)))
      have HBa := hid hBa
      have HNE := hid (fun h : some wr.heap.size = Value.ownBlock _ => Nat.lt_irrefl _ (hown.lt wr.heap.size h.symm).2)
      have hA : (wr.alloc (.cells #[.int .i64 x.lit, .int .i64 x.len, .int .i64 x.off] 44)).heap.size = wr.heap.size + 1 := by simp
      have hsz := hBa.size
      generalize scanL (l2.take k) = L at *
      clear hown hB hBa hx
      by_cases hlx : L < x.len
      · obtain ⟨av, cv, rfl⟩ := own_slice HO.out
        go_wp2_with (at_builtin; refine Hid.out ?_)
        refine hid ?_
        refine wpList_append1 rfl _ _ 38 rfl 44 _ 3 24 Tryz.underlying38 Tryz.info_seq rfl (by decide) (by decide) _ w2.heap.size _ _ _ [.int .i64 x.lit, .int .i64 x.len, .int .i64 x.off] rfl ?hu rfl ?hx (by exact HO.out) ?hn ?hb ?hk
        case hu => simp [Value.oneCell']
        case hx => exact congrArg (fun z => Value.slice (some ⟨z, 0, none⟩) 1 1) hA.symm
        case hn => omega
        case hb => exact hsz
        case hk =>
          intro v' w3 hown' hg
          have hbg := below_grown HO.out hg hsz
          have HB3 := hid (HBa.out.trans hbg)
          have HO3 := hid hown'
          have d1 := ((Blk.new wr [.int .i64 x.lit, .int .i64 x.len, .int .i64 x.off] 44).grown hg HNE.out).cell (k := 1) rfl
          clear hown' hg hbg
          go_wp2
          go_roundw
          case rel =>
            refine ⟨k + 1, hlt, by go_num, ?_, ?_, HB3.out⟩
            · rw [HSL.out, if_pos hlx]
            · have h3 := HO3.out
              rw [HST.out, if_pos hlx, List.length_append, List.flatMap_append]
              exact h3
          case measure => simp [intOf]; omega
      · go_wp2
        go_roundw
        case rel =>
          refine ⟨k + 1, hlt, by go_num, ?_, ?_, HBa.out⟩
          · rw [HSL.out, if_neg hlx]
          · rw [HST.out, if_neg hlx, List.append_nil]
            exact HO.out
        case measure => simp [intOf]; omega
    · obtain rfl : k = l2.length := by omega
      rw [List.take_of_length_le (Nat.le_refl _), HR.out] at hown
      have HO := hid (own_le hown HB2.out.size)
      have HB9 := hid (HB2.out.trans (hB.mono HB2.out.size))
      clear hown hB
      go_wp2
      go_ret
      exact ⟨_, rfl, HO.out, HB9.out⟩
end Go.Proofs.YtiagbejfghincaaGreat
namespace Go.Port
open Go.RowKit
def nextStep (last : Int) (x : Sq) : Option Sq → Option Sq
  | none => if last < x.off then some x else none
  | some y => if last < x.off ∧ x.off < y.off then some x else some y
theorem next_snoc (l0 : List Sq) (last : Int) (l : List Sq) (x : Sq) : ∀ o : Option Sq, nextGo l0 last o (l ++ [x]) = nextStep last x (nextGo l0 last o l) := by
  induction l with
  | nil =>
    intro o
    cases o with
    | none => simp only [List.nil_append, nextGo, nextStep]
    | some y => simp only [List.nil_append, nextGo, nextStep]
  | cons z r ih =>
    intro o
    cases o with
    | none => exact ih _
    | some y => exact ih _
theorem riseGo_len (l : List Sq) : ∀ (f : Nat) (last longest : Int), (riseGo f l last longest).length ≤ f := by
  intro f
  induction f with
  | zero => intro last longest; simp [riseGo]
  | succ f ih =>
    intro last longest
    unfold riseGo
    split
    · simp
    · rename_i y _
      split
      · have := ih y.off y.len
        simp only [List.length_cons]
        omega
      · have := ih y.off longest
        omega
/-- Where the reference's search stands: no place yet, or the place of the next greater offset. -/
def NextAt (l : List Sq) (last : Int) (k : Nat) (nx : Int) : Prop :=
  (nextGo l last none (l.take k) = none ∧ nx = -1) ∨ ∃ j y, nx = ((j : Nat) : Int) ∧ l[j]? = some y ∧ nextGo l last none (l.take k) = some y
theorem NextAt.step {l : List Sq} {last : Int} {k : Nat} {x : Sq} (hx : l[k]? = some x) : nextGo l last none (l.take (k + 1)) = nextStep last x (nextGo l last none (l.take k)) := by
  obtain ⟨h1, h2⟩ := List.getElem?_eq_some_iff.1 hx
  rw [List.take_succ_eq_append_getElem h1, h2, next_snoc]
end Go.Port
namespace Go.Proofs.YtiagbejfghincaaGreat
open Go.RowKit Go.Port
end Go.Proofs.YtiagbejfghincaaGreat
namespace Go.Port
open Go.RowKit
end Go.Port
namespace Go.Port
open Go.RowKit
end Go.Port
namespace Go.Port
open Go.RowKit
/-- A step: the position of a match, and the sequence. -/
def stc (x : Int × Sq) : List Value := [.int .i64 x.1, .int .i64 x.2.lit, .int .i64 x.2.len, .int .i64 x.2.off]
end Go.Port
namespace Go.Port
open Go.RowKit
def encsP (x : Int × Sq) : Array Value := #[.int .i64 x.1, sqv x.2]
end Go.Port
