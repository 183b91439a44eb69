/-
  The law LazyNone: all functions with a nil or zero finder, any lookahead. No condition.
-/
import Derived.Test.YtclheffeiaaodaaLzL
import Derived.Test.YtclheffeiaaodaaLzV
import Derived.Test.YtclheffeiaaodaaStepsGo
import Derived.Deep.CutRange
import Derived.LoopN
import Derived.Shelf.RegionOpen
import Derived.Sort.QuietIn
namespace Go.Proofs.Ytclheffeiaaodaa
open Go.RowKit Go.Port

attribute [local go_sem] Oper.semAt_some

theorem fn_nil (f : Nat) (lb : Array Value) (w : World) : (binOp .eql 58 (.func (.func f) #[] lb) .nilFunc).run Try.prog w = .ok (.bool false) w := by kernel_rfl

set_option maxRecDepth 1000000 in
set_option maxHeartbeats 8000000 in
theorem LazyNone_walk (w : World) (far : Int) (zero : Bool) :
    Calls Try.prog 9 #[.int .i64 far, .bool zero] w (RetV w (.bool true)) := by
  have HW := hid works_any
  have hR0 := Blk.new w [.bool false] 4
  have hB0 := below_new w (.cells #[.bool false] 4)
  have HR0 := hid hR0
  have HB0 := hid hB0
  clear hR0 hB0
  refine (callsIn_wide (n := 1)).1 ?_
  refine callsIn_of_wp_marks Try.func9 rfl trivial ?_ rfl
  simp only [Try.ntmps9, List.size_toArray, List.length_cons, List.length_nil, Nat.reduceAdd, Nat.reduceSub, Array.replicate_succ, Array.replicate_zero, List.push_toArray, List.append_toArray, List.nil_append, List.cons_append]
  refine wpIn_wide.2 ?_
  go_upto_if 16 with (fail)
  generalize w.alloc (.cells #[.bool false] 4) = w0 at *
  go_cut [5] from 5 to 18 (fun t wx => ∃ q, t = .pointer q ∧ NoFd q wx ∧ Below w0.heap.size w0 wx)
  case first =>
    cases zero with
    | false =>
      go_wp2_with fail
      go_meet
      exact ⟨none, rfl, .inl rfl, Below.refl _ _⟩
    | true =>
      have HX := hid (Blk.new w0 [.pointer none, .slice none 0 0, .int .i64 0, .int .i64 0, .int .i64 0] 64)
      have HBx := hid (below_new w0 (.cells #[.pointer none, .slice none 0 0, .int .i64 0, .int .i64 0, .int .i64 0] 64))
      go_wp2_with fail
      go_meet
      exact ⟨_, rfl, .inr ⟨_, rfl, HX.out⟩, HBx.out⟩
  case rest =>
    obtain ⟨q, rfl, hno, hbc⟩ := hcut
    have HR1 := hid (HR0.out.below hbc HR0.out.lt)
    have HB1 := hid (HB0.out.trans (hbc.mono HB0.out.size))
    have HNo := hid hno
    clear hbc hno HR0 HB0
    generalize wc = w1 at *
    go_wp2_with fail
    refine (look_none q far w1 HNo.out).mono ?_
    rintro e w' ⟨rfl, rfl⟩
    go_wp2_with fail
    refine (lzparse_none q w1 HNo.out).mono ?_
    rintro e w2 ⟨rfl, hb⟩
    have HR2 := hid (HR1.out.below hb HR1.out.lt)
    have HB2 := hid (HB1.out.trans (hb.mono HB1.out.size))
    have HNo2 := hid (show NoFd q w2 from HNo.out.imp id fun ⟨F, h1, h2⟩ => ⟨F, h1, h2.below hb h2.lt⟩)
    clear hb HR1 HB1 HNo
    go_wp2_with fail
    refine (lzbest_none q far w2 HNo2.out).mono ?_
    rintro e w3 ⟨rfl, hb⟩
    have HR3 := hid (HR2.out.below hb HR2.out.lt)
    have HB3 := hid (HB2.out.trans (hb.mono HB2.out.size))
    have HNo3 := hid (show NoFd q w3 from HNo2.out.imp id fun ⟨F, h1, h2⟩ => ⟨F, h1, h2.below hb h2.lt⟩)
    clear hb HR2 HB2 HNo2
    go_wp2_with fail
    refine (lzcosts_none q far w3 HNo3.out).mono ?_
    rintro e w4 ⟨rfl, hb⟩
    have HR4 := hid (HR3.out.below hb HR3.out.lt)
    have HB4 := hid (HB3.out.trans (hb.mono HB3.out.size))
    have HNo4 := hid (show NoFd q w4 from HNo3.out.imp id fun ⟨F, h1, h2⟩ => ⟨F, h1, h2.below hb h2.lt⟩)
    clear hb HR3 HB3 HNo3
    go_wp2_with fail
    refine (lzst_none q far w4 HNo4.out).mono ?_
    rintro e w5 ⟨g, rfl, hg5, hgb, hb5⟩
    have hfn := fun W => fn_nil 46 #[.pointer (some ⟨g, 0, none⟩)] W
    have HR5 := hid (HR4.out.below hb5 HR4.out.lt)
    have HB5 := hid (HB4.out.trans (hb5.mono HB4.out.size))
    have HG5 := hid hgb
    clear hb5 hgb hg5 HR4 HB4 HNo4
    go_wp2_with fail
    clear hfn
    refine (wpIn_wide (n := 1)).1 ?_
    obtain ⟨⟩ : True := trivial
    apply wpIn_rangeStA (gf := 46) (lb := #[.pointer (some ⟨g, 0, none⟩)]) rfl (enters_of Try.func46 (by kernel_rfl) rfl) (encs := encsP)
      (lzsteps1_seq (fun k => k < w5.heap.size) (fun _ => false) g none 0 [] w5 (by simp) HG5.out.lt (HG5.out.cell (k := 0) rfl) (fun j u hu => by simp at hu)) (fun _ => rfl)
      (fun _ W => Below w5.heap.size w5 W) (fun _ _ _ => False) (fun _ _ _ _ h hg hr => h.grown hg h.size (fun k hk => (hr k hk).1)) (fun _ _ _ _ _ h _ _ => h) (Below.refl _ _)
      0 (fun _ W => Below w5.heap.size w5 W) (fun _ _ _ h => h) (fun _ _ _ _ h => h.elim) (fun _ _ h => h)
    case hassign =>
      intro l' x W K hK
      gi_wp2
      exact hK
    case hbody =>
      intro l' pre x W hI hSp
      obtain ⟨rest, hr⟩ := hSp
      simp at hr
    case hrest =>
      intro D1 xs W hD hF hK
      have HR6 := hid (HR5.out.below hF HR5.out.lt)
      have HB6 := hid (HB5.out.trans (hF.mono HB5.out.size))
      have HK6 := hid hK
      have hDlow : w.heap.size < D1 := Nat.lt_of_lt_of_le HR5.out.lt hD
      clear hF hK hD
      go_wp2_with (go_at_call 16; refine (num_any _ _).mono ?_; rintro e w' ⟨rfl, rfl⟩)
      refine (HW.out _).mono ?_
      rintro e w7 ⟨rfl, hb7⟩
      have HR7 := hid (HR6.out.below hb7 HR6.out.lt)
      have HB7 := hid (HB6.out.trans (hb7.mono HB6.out.size))
      have HK7 := hid (at_low' hb7 HK6.out)
      have hr7 := HR7.out.cell (k := 0) rfl
      have hz7 := HR7.out.frozen 0
      clear hb7
      go_wp2
      have hrs := HR7.out.set 0 (.bool true)
      have hbs := HB7.out.setCell (p := ⟨w.heap.size, 0, none⟩) (Nat.le_refl _) (.bool true)
      have hK1 : (w7.setCell ⟨w.heap.size, 0, none⟩ (.bool true)).heap[D1]? = some (.deferred (some [])) := (Below.heap_setCell _ _ _ _ (by dsimp only; omega)).trans HK7.out
      generalize w7.setCell ⟨w.heap.size, 0, none⟩ (.bool true) = W9 at *
      refine ⟨by simp, .inl ⟨_, _, rfl, run_takeDeferred hK1, ?_⟩⟩
      have k1 : ∀ o, Blk (W9.putObj D1 o) w.heap.size [.bool true] 4 := fun o => (World.putObj_heap_other (by omega)).trans hrs
      have q1 := fun o => (k1 o).cell (k := 0) rfl
      refine ⟨.bool true, by simp [results, Try.results9, go_sem, q1], rfl, hbs.grown (grownBy_putObj' W9 D1 _) hbs.size (fun k hk => by cases hk; omega)⟩
end Go.Proofs.Ytclheffeiaaodaa
namespace Go.Proofs.Ytclheffeiaaodaa.LLazyNone
open Go.ChangeShapes Go.WideShapes Go.ChangeAt Go.RowKit Go.Port

set_option maxRecDepth 100000 in
theorem lifted (os : Os) (started : os.Started) (H : Type) (enc : TypeId × Value → H) :
    ReturnsInHanded {} Try.checked os 9 .any (Rows.lazyNoneSpec.pre6 enc Try.prog Try.f9 Rows.lazyNoneRow.domain false) (Rows.lazyNoneSpec.post enc Try.prog Try.f9 false true false false) := by
  refine returnsInHanded_of_change (C := Try.checked) Try.own started (by kernel_rfl) Try.func9
    (ChangeSpec.witness6 (enc := enc) (C := Try.checked) false ⟨#[], #[.int .i64 0, .bool false], []⟩ 8 (by kernel_rfl) (by kernel_rfl) (by kernel_rfl) (by kernel_rfl)) ?_
  intro W base args ds gs before hval0 hW hcnd _
  have hval : ∀ (j : Nat) t v, Try.f9.params[j]? = some t → args[j]? = some v → Value.okWide Try.prog W .any base t v := hval0
  have hW' := hW
  obtain ⟨p, q, hA0, hV, rfl, hfz, hnd⟩ := hW
  have hA : DataW.TrodAll enc Try.prog W 0 (fun _ => true) true Try.f9.params.toList args.toList ds p := hA0
  rw [Try.params9] at hA hval
  obtain ⟨v0, vs0, d0, ds0, p0, q0, hargs, rfl, rfl, h0, r0⟩ := trodAll_cons hA
  obtain ⟨v1, vs1, d1, ds1, p1, q1, rfl, rfl, rfl, h1, r1⟩ := trodAll_cons r0
  obtain ⟨rfl, rfl, rfl⟩ := trodAll_nil r1
  obtain rfl : args = #[v0, v1] := by cases args; simp_all
  obtain ⟨rfl, rfl⟩ := trodVars_none hV
  obtain ⟨a0, rfl, rfl, rfl, w0⟩ := open_int Try.underlying3 (hval 0 3 v0 rfl rfl) h0
  obtain ⟨a1, rfl, rfl, rfl⟩ := open_bool Try.underlying4 (hval 1 4 v1 rfl rfl) h1
  clear hA0 hval0
  simp only [List.append_nil] at hW'
  refine (LazyNone_walk W a0 a1).mono fun e W' ⟨he, hb⟩ => ?_
  subst he
  exact ⟨_, rfl, law_post Try.kids Try.full Try.underlying4 rfl rfl hW' (by rw [Try.params9]; decide) rfl rfl rfl hb⟩

theorem over : Rows.lazyNoneRow.holds Try.pinned (OpenSpec.ofChange Rows.lazyNoneSpec) :=
  OpenClaim.holds_of_wide 9 Try.f9 rfl rfl rfl rfl rfl rfl rfl ⟨rfl, rfl, rfl, rfl, rfl⟩ rfl rfl rfl rfl rfl (by kernel_rfl) Try.func9 (by kernel_rfl)
    (of_decide_eq_true (by kernel_rfl)) (by unfold Func.isWrapper; first | (rw [if_pos (by decide +kernel)]; kernel_rfl) | (rw [if_neg (by decide +kernel)]; exact ⟨rfl, rfl⟩))
    (fun os started H enc _ => lifted os started H enc)

/-- The statement. -/
theorem proved : Rows.LazyNoneSaid :=
  over
end Go.Proofs.Ytclheffeiaaodaa.LLazyNone
