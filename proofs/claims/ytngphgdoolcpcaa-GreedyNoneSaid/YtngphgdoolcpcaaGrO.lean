/-
  The walks of layer 30: the iterator's maker.
-/
import Derived.Test.YtngphgdoolcpcaaGrN
import Derived.Test.YtngphgdoolcpcaaPlanAll
import Derived.Test.YtngphgdoolcpcaaMade
import Derived.Test.YtngphgdoolcpcaaRMatches
namespace Go.Proofs.Ytngphgdoolcpcaa
open Go.RowKit Go.Port

set_option maxRecDepth 100000 in
set_option maxHeartbeats 4000000 in
theorem gst_any (bs : List UInt8) (A : Nat) (W D : Int) (F : Nat) (least : Int) (w : World) (h : FdAt 57 119 bs A W D F w) :
    Calls Try.prog 23 #[.pointer (some ⟨F, 0, none⟩), .int .i64 least] w fun e w' => ∃ g a c, e = .returned (.func (.func 35) #[] #[.pointer (some ⟨g, 0, none⟩)]) ∧ w.heap.size ≤ g ∧ Blk w' g [.slice a (fromL bs A W D 0 least).length c] 68 ∧ CellsAt w' a ((fromL bs A W D 0 least).flatMap stc) ∧ Below w.heap.size w w' := by
  by_cases he : fromE bs A 0 least = 0
  · have HSt := hid (gsteps_ok bs A W D F 0 least w h he)
    clear h he
    generalize fromL bs A W D 0 least = L at *
    go_enter Try.func23, Try.ntmps23
    go_wp2_with fail
    refine HSt.out.mono ?_
    rintro e w1 ⟨v, rfl, hown, hb1⟩
    obtain ⟨av, cv, rfl⟩ := own_slice hown
    have hcl := (Sl.of_owns hown).cells' rfl
    have HC := hid (hcl.low (below_new w1 (.cells #[.slice av L.length cv] 68)))
    have HS := hid hb1.size
    have HB1 := hid (hb1.alloc hb1.size (.cells #[.slice av L.length cv] 68))
    clear hown hcl hb1 HSt
    go_wp2
    go_ret
    exact ⟨_, _, _, rfl, HS.out, Blk.new w1 [.slice av L.length cv] _, HC.out, HB1.out⟩
  · have HSt := hid (gsteps_bad bs A W D F 0 least w h he)
    have hl : fromL bs A W D 0 least = [] := by unfold fromL; rw [if_neg he]
    rw [hl]
    clear h he hl
    go_enter Try.func23, Try.ntmps23
    go_wp2_with fail
    refine HSt.out.mono ?_
    rintro e w1 ⟨rfl, m, rfl⟩
    have HB := hid (below_drewN (Below.refl w.heap.size w) m)
    have HS := hid (show w.heap.size ≤ (w.drewN m).heap.size from Nat.le_refl _)
    generalize w.drewN m = w1 at *
    have HB1 := hid (HB.out.alloc HB.out.size (.cells #[.slice none 0 0] 68))
    go_wp2
    go_ret
    exact ⟨_, _, _, rfl, HS.out, Blk.new w1 [.slice none 0 0] _, fun j u hu => by simp at hu, HB1.out⟩

set_option maxRecDepth 100000 in
theorem gst_none (q : Option Addr) (least : Int) (w : World) (h : NoFd q w) :
    Calls Try.prog 23 #[.pointer q, .int .i64 least] w fun e w' => ∃ g, e = .returned (.func (.func 35) #[] #[.pointer (some ⟨g, 0, none⟩)]) ∧ w.heap.size ≤ g ∧ Blk w' g [.slice none 0 0] 68 ∧ Below w.heap.size w w' := by
  have HSt := hid (gsteps_none q 0 least w h)
  clear h
  go_enter Try.func23, Try.ntmps23
  go_wp2_with fail
  refine HSt.out.mono ?_
  rintro e w1 ⟨rfl, rfl⟩
  go_wp2
  go_ret
  exact ⟨_, rfl, Nat.le_refl _, Blk.new w [.slice none 0 0] _, below_new w _⟩

end Go.Proofs.Ytngphgdoolcpcaa
