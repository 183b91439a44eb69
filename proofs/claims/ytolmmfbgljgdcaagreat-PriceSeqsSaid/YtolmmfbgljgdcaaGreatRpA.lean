/-
  The repeated offsets (layer 21): plain definitions, and the reference's walks.
-/
import Derived.Test.YtolmmfbgljgdcaaGreatPrS
namespace Go.Port
open Go.RowKit
def winOk (x : Int) : Bool := decide (1 ≤ x) && decide (x ≤ 134217728)
theorem winOk_true {x : Int} (h : winOk x = true) : 1 ≤ x ∧ x ≤ 134217728 := by
  unfold winOk at h
  simpa using h
theorem winOk_false {x : Int} (h : winOk x = false) : x < 1 ∨ 134217728 < x := by
  unfold winOk at h
  simp only [Bool.and_eq_false_iff, decide_eq_false_iff_not] at h
  omega
def rRight (r0 r1 r2 : Int) : Bool := winOk r0 && winOk r1 && winOk r2
/-- The offset that a value names, and which it is. -/
def toldF (r0 r1 r2 lit v : Int) : Int × Int :=
  if 3 < v then (v - 3, 3) else if lit = 0 then (if v = 1 then (r1, 1) else if v = 2 then (r2, 2) else (r0 - 1, 3)) else (if v = 1 then (r0, 0) else if v = 2 then (r1, 1) else (r2, 2))
/-- The repeated offsets behind it. -/
def nextF (r0 r1 r2 : Int) (t : Int × Int) : Int × Int × Int := if t.2 = 0 then (r0, r1, r2) else if t.2 = 1 then (r1, r0, r2) else (t.1, r0, r1)
/-- The value of an offset, as long as the values from k on are still to come. -/
def valF (r0 r1 r2 lit off : Int) : Int := if (toldF r0 r1 r2 lit 1).1 = off then 1 else if (toldF r0 r1 r2 lit 2).1 = off then 2 else if (toldF r0 r1 r2 lit 3).1 = off then 3 else off + 3
def nxtV (n : Int × Int × Int) : Value := .agg #[.int .i64 n.1, .int .i64 n.2.1, .int .i64 n.2.2]
theorem valF_told {r0 r1 r2 lit off : Int} (h : 1 ≤ off) : (toldF r0 r1 r2 lit (valF r0 r1 r2 lit off)).1 = off ∧ 1 ≤ valF r0 r1 r2 lit off ∧ valF r0 r1 r2 lit off ≤ off + 3 := by
  unfold valF
  split
  · rename_i h1; exact ⟨h1, by omega, by omega⟩
  · split
    · rename_i h1; exact ⟨h1, by omega, by omega⟩
    · split
      · rename_i h1; exact ⟨h1, by omega, by omega⟩
      · refine ⟨?_, by omega, by omega⟩
        unfold toldF
        rw [if_pos (by omega)]
        omega
theorem toldF_at (r0 r1 r2 lit v : Int) : (toldF r0 r1 r2 lit v).2 = 0 ∧ (toldF r0 r1 r2 lit v).1 = r0 ∨ (toldF r0 r1 r2 lit v).2 = 1 ∧ (toldF r0 r1 r2 lit v).1 = r1 ∨ (toldF r0 r1 r2 lit v).2 = 2 ∧ (toldF r0 r1 r2 lit v).1 = r2 ∨ (toldF r0 r1 r2 lit v).2 = 3 := by
  unfold toldF
  split
  · simp
  · split <;> split <;> (try split) <;> simp
end Go.Port
namespace Go.Proofs.YtolmmfbgljgdcaaGreat
open Go.RowKit Go.Port

theorem rwithin_any (x : Int) (w : World) : Calls Tryz.prog 64 #[.int .i64 x] w fun e w' => e = .returned (.bool (winOk x)) ∧ w = w' := by
  by_cases h1 : 1 ≤ x
  · by_cases h2 : x ≤ 134217728
    · go_enter Tryz.func64, Tryz.ntmps64
      go_wp2
      go_ret
      exact ⟨by simp [winOk, h1, h2], rfl⟩
    · go_enter Tryz.func64, Tryz.ntmps64
      go_wp2
      go_ret
      exact ⟨by simp [winOk, h1, h2], rfl⟩
  · go_enter Tryz.func64, Tryz.ntmps64
    go_wp2
    go_ret
    exact ⟨by unfold winOk; rw [show decide (1 ≤ x) = false from by simp; omega]; rfl, rfl⟩
theorem rright21_any (r0 r1 r2 : Int) (w : World) : Calls Tryz.prog 36 #[.agg #[.int .i64 r0, .int .i64 r1, .int .i64 r2]] w (RetV w (.bool (rRight r0 r1 r2))) := by
  have HB := hid (below_new w (.cells #[.int .i64 r0, .int .i64 r1, .int .i64 r2] 40))
  have HX := hid (Blk.new w [.int .i64 r0, .int .i64 r1, .int .i64 r2] 40)
  have c0 := HX.out.cell (k := 0) rfl
  have c1 := HX.out.cell (k := 1) rfl
  have c2 := HX.out.cell (k := 2) rfl
  cases e0 : winOk r0 <;> cases e1 : winOk r1 <;> cases e2 : winOk r2
  · go_enter Tryz.func36, Tryz.ntmps36
    go_wp2_with (go_at_call 64; refine (rwithin_any _ _).mono ?_; rintro e w' ⟨rfl, rfl⟩)
    go_ret
    exact ⟨by simp [rRight, e0, e1, e2], HB.out⟩
  · go_enter Tryz.func36, Tryz.ntmps36
    go_wp2_with (go_at_call 64; refine (rwithin_any _ _).mono ?_; rintro e w' ⟨rfl, rfl⟩)
    go_ret
    exact ⟨by simp [rRight, e0, e1, e2], HB.out⟩
  · go_enter Tryz.func36, Tryz.ntmps36
    go_wp2_with (go_at_call 64; refine (rwithin_any _ _).mono ?_; rintro e w' ⟨rfl, rfl⟩)
    go_ret
    exact ⟨by simp [rRight, e0, e1, e2], HB.out⟩
  · go_enter Tryz.func36, Tryz.ntmps36
    go_wp2_with (go_at_call 64; refine (rwithin_any _ _).mono ?_; rintro e w' ⟨rfl, rfl⟩)
    go_ret
    exact ⟨by simp [rRight, e0, e1, e2], HB.out⟩
  · go_enter Tryz.func36, Tryz.ntmps36
    go_wp2_with (go_at_call 64; refine (rwithin_any _ _).mono ?_; rintro e w' ⟨rfl, rfl⟩)
    go_ret
    exact ⟨by simp [rRight, e0, e1, e2], HB.out⟩
  · go_enter Tryz.func36, Tryz.ntmps36
    go_wp2_with (go_at_call 64; refine (rwithin_any _ _).mono ?_; rintro e w' ⟨rfl, rfl⟩)
    go_ret
    exact ⟨by simp [rRight, e0, e1, e2], HB.out⟩
  · go_enter Tryz.func36, Tryz.ntmps36
    go_wp2_with (go_at_call 64; refine (rwithin_any _ _).mono ?_; rintro e w' ⟨rfl, rfl⟩)
    go_ret
    exact ⟨by simp [rRight, e0, e1, e2], HB.out⟩
  · go_enter Tryz.func36, Tryz.ntmps36
    go_wp2_with (go_at_call 64; refine (rwithin_any _ _).mono ?_; rintro e w' ⟨rfl, rfl⟩)
    go_ret
    exact ⟨by simp [rRight, e0, e1, e2], HB.out⟩
theorem rtold21_any (r0 r1 r2 lit v : Int) (h1 : 1 ≤ v) (h2 : v ≤ 134217731) (hr : 1 ≤ r0 ∧ r0 ≤ 134217728) (w : World) : Calls Tryz.prog 82 #[.agg #[.int .i64 r0, .int .i64 r1, .int .i64 r2], .int .i64 lit, .int .i64 v] w (RetV w (.tuple #[.int .i64 (toldF r0 r1 r2 lit v).1, .int .i64 (toldF r0 r1 r2 lit v).2])) := by
  have HB := hid (below_new w (.cells #[.int .i64 r0, .int .i64 r1, .int .i64 r2] 40))
  have HX := hid (Blk.new w [.int .i64 r0, .int .i64 r1, .int .i64 r2] 40)
  have c0 := HX.out.cell (k := 0) rfl
  have c1 := HX.out.cell (k := 1) rfl
  have c2 := HX.out.cell (k := 2) rfl
  have hw0 : IntKind.i64.wrap (r0 - 1) = r0 - 1 := by rw [IntKind.wrap_i64]; omega
  by_cases h3 : 3 < v
  · have hw : IntKind.i64.wrap (v - 3) = v - 3 := by rw [IntKind.wrap_i64]; omega
    go_enter Tryz.func82, Tryz.ntmps82
    go_wp2
    go_ret2
    exact ⟨by simp [toldF, h3], HB.out⟩
  · have hv : v = 1 ∨ v = 2 ∨ v = 3 := by omega
    rcases hv with rfl | rfl | rfl <;> by_cases hl : lit = 0
    · go_enter Tryz.func82, Tryz.ntmps82
      go_wp2
      go_ret2
      exact ⟨by simp [toldF], HB.out⟩
    · go_enter Tryz.func82, Tryz.ntmps82
      go_wp2
      go_ret2
      exact ⟨by simp [toldF, hl], HB.out⟩
    · go_enter Tryz.func82, Tryz.ntmps82
      go_wp2
      go_ret2
      exact ⟨by simp [toldF], HB.out⟩
    · go_enter Tryz.func82, Tryz.ntmps82
      go_wp2
      go_ret2
      exact ⟨by simp [toldF, hl], HB.out⟩
    · go_enter Tryz.func82, Tryz.ntmps82
      go_wp2
      go_ret2
      exact ⟨by simp [toldF], HB.out⟩
    · go_enter Tryz.func82, Tryz.ntmps82
      go_wp2
      go_ret2
      exact ⟨by simp [toldF, hl], HB.out⟩
end Go.Proofs.YtolmmfbgljgdcaaGreat
