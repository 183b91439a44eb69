/-
  The walks of layer 28, for the comparison with the reference: the reference's increasing matches.
  Plain laws of layer 30: the greedy plan as it is handed back; its steps; steps in memory.
-/
import Derived.Test.YtiagbejfghincaaGreatY27
import Derived.Test.YtiagbejfghincaaGreatY01
import Derived.Test.YtiagbejfghincaaGreatY24
import Derived.Test.YtiagbejfghincaaGreatY23
namespace Go.Port
open Go.RowKit
def nextStep (last : Int) (x : Sq) : Option Sq → Option Sq
  | none => if last < x.off then some x else none
  | some y => if last < x.off ∧ x.off < y.off then some x else some y
theorem next_snoc (l0 : List Sq) (last : Int) (l : List Sq) (x : Sq) : ∀ o : Option Sq, nextGo l0 last o (l ++ [x]) = nextStep last x (nextGo l0 last o l) := by
  induction l with
  | nil =>
    intro o
    cases o with
    | none => simp only [List.nil_append, nextGo, nextStep]
    | some y => simp only [List.nil_append, nextGo, nextStep]
  | cons z r ih =>
    intro o
    cases o with
    | none => exact ih _
    | some y => exact ih _
theorem riseGo_len (l : List Sq) : ∀ (f : Nat) (last longest : Int), (riseGo f l last longest).length ≤ f := by
  intro f
  induction f with
  | zero => intro last longest; simp [riseGo]
  | succ f ih =>
    intro last longest
    unfold riseGo
    split
    · simp
    · rename_i y _
      split
      · have := ih y.off y.len
        simp only [List.length_cons]
        omega
      · have := ih y.off longest
        omega
/-- How many elements lie above an offset. -/
def cntGt : List Sq → Int → Nat
  | [], _ => 0
  | y :: r, t => (if t < y.off then 1 else 0) + cntGt r t
theorem cntGt_le (l : List Sq) (t : Int) : cntGt l t ≤ l.length := by
  induction l with
  | nil => exact Nat.le_refl _
  | cons y r ih => simp only [cntGt, List.length_cons]; split <;> omega
theorem cntGt_mono (l : List Sq) {t t' : Int} (h : t ≤ t') : cntGt l t' ≤ cntGt l t := by
  induction l with
  | nil => exact Nat.le_refl _
  | cons y r ih =>
    simp only [cntGt]
    split
    · rw [if_pos (by omega)]; omega
    · split <;> omega
theorem cntGt_lt {l : List Sq} {x : Sq} {t : Int} (hx : x ∈ l) (h : t < x.off) : cntGt l x.off < cntGt l t := by
  induction l with
  | nil => cases hx
  | cons y r ih =>
    simp only [cntGt]
    rcases List.mem_cons.1 hx with rfl | hx
    · rw [if_neg (by omega), if_pos h]
      have := cntGt_mono r (Int.le_of_lt h)
      omega
    · have := ih hx
      split
      · rw [if_pos (by omega)]; omega
      · split <;> omega
/-- Where the reference's search stands: no place yet, or the place of the next greater offset. -/
def NextAt (l : List Sq) (last : Int) (k : Nat) (nx : Int) : Prop :=
  (nextGo l last none (l.take k) = none ∧ nx = -1) ∨ ∃ j y, nx = ((j : Nat) : Int) ∧ l[j]? = some y ∧ nextGo l last none (l.take k) = some y
theorem NextAt.step {l : List Sq} {last : Int} {k : Nat} {x : Sq} (hx : l[k]? = some x) : nextGo l last none (l.take (k + 1)) = nextStep last x (nextGo l last none (l.take k)) := by
  obtain ⟨h1, h2⟩ := List.getElem?_eq_some_iff.1 hx
  rw [List.take_succ_eq_append_getElem h1, h2, next_snoc]
end Go.Port
namespace Go.Proofs.YtiagbejfghincaaGreat
open Go.RowKit Go.Port
set_option maxRecDepth 100000 in
set_option maxHeartbeats 8000000 in
theorem rising_any (a a2 : Option Addr) (c c2 : Nat) (b : List UInt8) (pos most : Int) (frm : List Int) (w : World) (hb : b.length ≤ 1000000) (hf : frm.length ≤ 10000)
    (hc : ∀ j u, (b.map bv)[j]? = some u → ∃ bl off, a = some ⟨bl, off, none⟩ ∧ bl < w.heap.size ∧ w.cell? ⟨bl, off + j, none⟩ = some u)
    (hc2 : ∀ j u, (frm.map iv)[j]? = some u → ∃ bl off, a2 = some ⟨bl, off, none⟩ ∧ bl < w.heap.size ∧ w.cell? ⟨bl, off + j, none⟩ = some u) :
    Calls Tryz.prog 68 #[.slice a b.length c, .int .i64 pos, .int .i64 most, .slice a2 frm.length c2] w fun e w' => ∃ v, e = .returned v ∧ w'.ownsRow w.heap.size 44 3 v (incS b pos most frm).length ((incS b pos most frm).flatMap sqc) ∧ Below w.heap.size w w' := by
  have HA := hid (rall_any a a2 c c2 b pos most frm w hb (by omega) hc hc2)
  have hml := matchesS_length b pos most frm
  have hR : riseGo (frm.length + 1) (matchesS b pos most frm) 0 2 = incS b pos most frm := rfl
  have hRl := riseGo_len (matchesS b pos most frm) (frm.length + 1) 0 2
  rw [hR] at hRl
  generalize incS b pos most frm = R at *
  have HR := hid hR
  clear hc hc2 hR
  generalize matchesS b pos most frm = l at *
  go_enter Tryz.func68, Tryz.ntmps68
  go_wp2_with fail
  refine HA.out.mono ?_
  rintro e w1 ⟨v, rfl, hown, hb1⟩
  obtain ⟨av, cv, rfl⟩ := own_slice hown
  have hsl := Sl.of_owns hown
  have HC := hid (show ∀ j u, (l.flatMap sq2)[j]? = some u → ∃ bl off, av = some ⟨bl, off, none⟩ ∧ bl < w1.heap.size ∧ w1.cell? ⟨bl, off + j, none⟩ = some u from by
    obtain ⟨_, _, e, _, _, _, h⟩ := hsl.open
    cases e
    exact h)
  have HB1 := hid hb1
  clear hown hsl hb1 HA
  go_wp2
  go_loopw [10, 11, 12] (fun v10 v11 v12 wr => ∃ (f : Nat) (last longest : Int) (acc : List Sq), v11 = .int .i64 last ∧ v12 = .int .i64 longest ∧ Hid (cntGt l last < f ∧ acc ++ riseGo f l last longest = R) ∧ wr.ownsRow w1.heap.size 44 3 v10 acc.length (acc.flatMap sqc) ∧ Below w1.heap.size w1 wr) (fun _ v11 _ _ => cntGt l (intOf v11))
  case atStart => exact ⟨frm.length + 1, 0, 2, [], rfl, rfl, hid ⟨by have := cntGt_le l 0; omega, by rw [List.nil_append]; exact HR.out⟩, World.ownsRow_nil _ _ _ _, Below.refl _ _⟩
  case round =>
    obtain ⟨f, last, longest, acc, rfl, rfl, HF, hown, hB⟩ := hrel
    have HO := hid hown
    have HBr := hid hB
    clear hown hB
    go_wp2
    go_loopw [13, 14] (fun v13 v14 w2 => ∃ (k m : Nat) (nx : Int), k ≤ l.length ∧ v13 = .int .i64 nx ∧ v14 = .int .i64 k ∧ Hid (NextAt l last k nx) ∧ w2 = wr.drewN m) (fun _ v14 _ => l.length - (intOf v14).toNat)
    case atStart => exact ⟨0, 0, -1, Nat.zero_le _, rfl, rfl, hid (.inl ⟨rfl, rfl⟩), rfl⟩
    case round =>
      obtain ⟨k, m, nx, hk, rfl, rfl, HN, rfl⟩ := hrel
      by_cases hlt : k < l.length
      · obtain ⟨x, hx⟩ : ∃ x, l[k]? = some x := ⟨l[k], by simp [hlt]⟩
        have HST := hid (NextAt.step (last := last) hx)
        have HX := hid hx
        obtain ⟨bl, off, rfl, hb0, c0⟩ := HC.out (k * 2 + 0) (.int .i64 x.off) (by rw [sq2_get hx 0 (by omega)]; rfl)
        rw [Nat.add_zero] at c0
        have d0 := (HBr.out.cell (p := ⟨bl, off + k * 2, none⟩) hb0).trans c0
        have hkI : (k : Int) < (l.length : Int) := by omega
        obtain ⟨xl, X, D⟩ := x
        dsimp only at c0 d0
        clear hx c0
        by_cases hD : last < D
        · rcases HN.out with ⟨hn1, rfl⟩ | ⟨j, y, rfl, hy, hn1⟩
          · have HN2 := hid (show NextAt l last (k + 1) (k : Int) from .inr ⟨k, _, rfl, HX.out, by rw [HST.out, hn1]; unfold nextStep; dsimp only; rw [if_pos hD]⟩)
            clear hn1
            go_wp2
            have h1 : decide (last < D) = true := decide_eq_true (by omega)
            go_quiet (fail)
            go_wp2
            go_roundw
            case rel => exact ⟨k + 1, m + nq, k, hlt, by first | rfl | go_num, by go_num, HN2, rfl⟩
            case measure => simp [intOf]; omega
          · obtain ⟨bl1, off1, e1, _, c1⟩ := HC.out (j * 2 + 0) (.int .i64 y.off) (by rw [sq2_get hy 0 (by omega)]; rfl)
            cases e1
            rw [Nat.add_zero] at c1
            have d1 := (HBr.out.cell (p := ⟨bl, off + j * 2, none⟩) hb0).trans c1
            have hjl := (List.getElem?_eq_some_iff.1 hy).1
            have hjI : (j : Int) < (l.length : Int) := by omega
            have hj0 : ¬ (j : Int) < 0 := by omega
            obtain ⟨yl, Y, E⟩ := y
            dsimp only at c1 d1
            by_cases hE : D < E
            · have HN2 := hid (show NextAt l last (k + 1) (k : Int) from .inr ⟨k, _, rfl, HX.out, by rw [HST.out, hn1]; unfold nextStep; dsimp only; rw [if_pos ⟨hD, hE⟩]⟩)
              clear hn1 hy c1
              go_wp2
              have h1 : decide (last < D) = true := decide_eq_true (by omega)
              have h2 : decide ((j : Int) < 0) = false := decide_eq_false (by omega)
              have h3 : decide (D < E) = true := decide_eq_true (by omega)
              go_quiet (fail)
              go_wp2
              go_roundw
              case rel => exact ⟨k + 1, m + nq, k, hlt, by first | rfl | go_num, by go_num, HN2, rfl⟩
              case measure => simp [intOf]; omega
            · have HN2 := hid (show NextAt l last (k + 1) (j : Int) from .inr ⟨j, _, rfl, hy, by rw [HST.out, hn1]; unfold nextStep; dsimp only; rw [if_neg (by omega)]⟩)
              clear hn1 hy c1
              go_wp2
              have h1 : decide (last < D) = true := decide_eq_true (by omega)
              have h2 : decide ((j : Int) < 0) = false := decide_eq_false (by omega)
              have h3 : decide (D < E) = false := decide_eq_false (by omega)
              go_quiet (fail)
              go_wp2
              go_roundw
              case rel => exact ⟨k + 1, m + nq, j, hlt, by first | rfl | go_num, by go_num, HN2, rfl⟩
              case measure => simp [intOf]; omega
        · have HN2 := hid (show NextAt l last (k + 1) nx from by
            rcases HN.out with ⟨hn1, rfl⟩ | ⟨j, y, rfl, hy, hn1⟩
            · exact .inl ⟨by rw [HST.out, hn1]; unfold nextStep; dsimp only; rw [if_neg hD], rfl⟩
            · exact .inr ⟨j, y, rfl, hy, by rw [HST.out, hn1]; unfold nextStep; dsimp only; rw [if_neg (by omega)]⟩)
          go_wp2
          have h1 : decide (last < D) = false := decide_eq_false (by omega)
          go_quiet (fail)
          go_wp2
          go_roundw
          case rel => exact ⟨k + 1, m + nq, nx, hlt, by first | rfl | go_num, by go_num, HN2, rfl⟩
          case measure => simp [intOf]; omega
      · obtain rfl : k = l.length := by omega
        obtain ⟨f', rfl⟩ : ∃ f', f = f' + 1 := ⟨f - 1, by have := HF.out.1; omega⟩
        have hrise : riseGo (f' + 1) l last longest = (match nextGo l last none l with
            | none => []
            | some x => if longest < x.len then ⟨0, x.len, x.off⟩ :: riseGo f' l x.off x.len else riseGo f' l x.off longest) := rfl
        have hn := HN.out
        unfold NextAt at hn
        rw [List.take_of_length_le (Nat.le_refl _)] at hn
        have hsp := nextGo_spec l last l none (fun y hy => by cases hy)
        rcases hn with ⟨hn1, rfl⟩ | ⟨j, y, rfl, hy, hn1⟩
        · have hacc := HF.out.2
          rw [hrise, hn1] at hacc
          dsimp only at hacc
          rw [List.append_nil] at hacc
          have HO9 := hid (show (wr.drewN m).ownsRow w.heap.size 44 3 _ R.length (R.flatMap sqc) from by
            rw [← hacc]
            exact own_le (own_low HO.out (below_drewN (Below.refl _ _) m)) HB1.out.size)
          have HB9 := hid (HB1.out.trans ((below_drewN HBr.out m).mono HB1.out.size))
          clear hacc hrise hn1 hsp
          go_wp2
          (try simp only [Exit.inBlock, Exit.then])
          go_ret
          exact ⟨_, rfl, HO9.out, HB9.out⟩
        · have hlast := ((hsp.2 y hn1).2).1
          have hcnt := cntGt_lt (List.mem_of_getElem? hy) hlast
          obtain ⟨bl, off, rfl, hb0, c0⟩ := HC.out (j * 2 + 0) (.int .i64 y.off) (by rw [sq2_get hy 0 (by omega)]; rfl)
          obtain ⟨bl1, off1, e1, _, c1⟩ := HC.out (j * 2 + 1) (.int .i64 y.len) (by rw [sq2_get hy 1 (by omega)]; rfl)
          cases e1
          rw [Nat.add_zero] at c0
          rw [← Nat.add_assoc] at c1
          have d0 := (HBr.out.cell (p := ⟨bl, off + j * 2, none⟩) hb0).trans c0
          have d1 := (HBr.out.cell (p := ⟨bl, off + j * 2 + 1, none⟩) hb0).trans c1
          have hjl := (List.getElem?_eq_some_iff.1 hy).1
          have hjI : (j : Int) < (l.length : Int) := by omega
          have hj0 : ¬ (j : Int) < 0 := by omega
          have hf1 := HF.out.1
          have hacc := HF.out.2
          rw [hrise, hn1] at hacc
          dsimp only at hacc
          obtain ⟨yl, Y, E⟩ := y
          dsimp only at c0 c1 d0 d1 hacc hcnt hlast
          clear hrise hn1 hsp hy c0 c1
          by_cases hY : longest < Y
          · rw [if_pos hY] at hacc
            have hRlen : acc.length ≤ 20000 := by
              have := congrArg List.length hacc
              rw [List.length_append] at this
              omega
            have HACC := hid (show (acc ++ [⟨0, Y, E⟩]) ++ riseGo f' l E Y = R from by rw [List.append_assoc]; exact hacc)
            have HCNT := hid (And.intro hcnt hf1)
            have hBm := below_drewN HBr.out m
            have HOm := hid (own_low HO.out (below_drewN (Below.refl wr.heap.size wr) m))
            have hszm := hBm.size
            have HBm := hid hBm
            clear hacc hcnt hf1 hBm
            obtain ⟨av, cv, rfl⟩ := own_slice HOm.out
            go_wp2_with (at_builtin; refine Hid.out ?_)
            refine hid ?_
            refine wpList_append1 rfl _ _ 38 rfl 44 _ 3 24 Tryz.underlying38 Tryz.info_seq rfl (by decide) (by decide) _ w1.heap.size _ _ _ [.int .i64 0, .int .i64 Y, .int .i64 E] rfl ?hu rfl rfl (by exact HOm.out) ?hn ?hb ?hk
            case hu => simp [Value.oneCell']
            case hn => omega
            case hb => exact hszm
            case hk =>
              intro v' w3 hown' hg
              have hbg := below_grown HOm.out hg hszm
              have HB3 := hid (HBm.out.trans hbg)
              have HO3 := hid hown'
              clear hown' hg hbg
              go_wp2
              go_roundw
              case rel =>
                refine ⟨f', E, Y, acc ++ [⟨0, Y, E⟩], rfl, rfl, hid ⟨by have := HCNT.out; omega, HACC.out⟩, ?_, HB3.out⟩
                have h3 := HO3.out
                rw [List.length_append, List.flatMap_append]
                exact h3
              case measure => simp [intOf]; have := HCNT.out; omega
          · rw [if_neg hY] at hacc
            have HACC := hid hacc
            have HCNT := hid (And.intro hcnt hf1)
            clear hacc hcnt hf1
            go_wp2
            go_roundw
            case rel => exact ⟨f', E, longest, acc, rfl, rfl, hid ⟨by have := HCNT.out; omega, HACC.out⟩, own_low HO.out (below_drewN (Below.refl _ _) m), below_drewN HBr.out m⟩
            case measure => simp [intOf]; have := HCNT.out; omega
end Go.Proofs.YtiagbejfghincaaGreat
namespace Go.Port
open Go.RowKit
end Go.Port
namespace Go.Port
open Go.RowKit
end Go.Port
namespace Go.Port
open Go.RowKit
/-- A step: the position of a match, and the sequence. -/
def stc (x : Int × Sq) : List Value := [.int .i64 x.1, .int .i64 x.2.lit, .int .i64 x.2.len, .int .i64 x.2.off]
end Go.Port
namespace Go.Port
open Go.RowKit
def encsP (x : Int × Sq) : Array Value := #[.int .i64 x.1, sqv x.2]
end Go.Port
