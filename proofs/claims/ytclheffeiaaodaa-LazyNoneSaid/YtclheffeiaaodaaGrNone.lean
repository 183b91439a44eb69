/-
  The walks of layer 30: a finder that is nil or zero.
-/
import Derived.Test.YtclheffeiaaodaaGr
namespace Go.Proofs.Ytclheffeiaaodaa
open Go.RowKit Go.Port

set_option maxRecDepth 100000 in
theorem gfrom_none (q : Option Addr) (p least : Int) (w : World) (h : NoFd q w) :
    Calls Try.prog 66 #[.pointer q, .int .i64 p, .int .i64 least] w fun e w' => e = .returned (.tuple #[.slice none 0 0, .int .i64 1]) ∧ w = w' := by
  have HSt := hid (gsteps_none q p least w h)
  clear h
  go_enter Try.func66, Try.ntmps66
  go_wp2_with fail
  refine HSt.out.mono ?_
  rintro e w' ⟨rfl, rfl⟩
  go_wp2_with fail
  refine wp_loop_rounds 1 ?_
  rw [rounds_succ]
  go_wp2
  go_ret2
  exact ⟨rfl, rfl⟩
theorem gmin_none (q : Option Addr) (least : Int) (w : World) (h : NoFd q w) :
    Calls Try.prog 43 #[.pointer q, .int .i64 least] w fun e w' => e = .returned (.tuple #[.slice none 0 0, .int .i64 1]) ∧ w = w' := by
  have HSt := hid (gfrom_none q 0 least w h)
  clear h
  go_enter Try.func43, Try.ntmps43
  go_wp2_with fail
  refine HSt.out.mono ?_
  rintro e w' ⟨rfl, rfl⟩
  go_wp2
  go_ret2
  exact ⟨rfl, rfl⟩
theorem gparse_none (q : Option Addr) (w : World) (h : NoFd q w) :
    Calls Try.prog 23 #[.pointer q] w fun e w' => e = .returned (.tuple #[.slice none 0 0, .int .i64 1]) ∧ w = w' := by
  have HSt := hid (gmin_none q 3 w h)
  clear h
  go_enter Try.func23, Try.ntmps23
  go_wp2_with fail
  refine HSt.out.mono ?_
  rintro e w' ⟨rfl, rfl⟩
  go_wp2
  go_ret2
  exact ⟨rfl, rfl⟩
theorem gcost_none (q : Option Addr) (w : World) (h : NoFd q w) :
    Calls Try.prog 24 #[.pointer q] w fun e w' => e = .returned (.tuple #[.int .i64 0, .int .i64 1]) ∧ w = w' := by
  have HSt := hid (gparse_none q w h)
  clear h
  go_enter Try.func24, Try.ntmps24
  go_wp2_with fail
  refine HSt.out.mono ?_
  rintro e w' ⟨rfl, rfl⟩
  go_wp2
  go_ret2
  exact ⟨rfl, rfl⟩
end Go.Proofs.Ytclheffeiaaodaa
