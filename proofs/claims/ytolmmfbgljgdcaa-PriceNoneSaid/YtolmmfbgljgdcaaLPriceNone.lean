/-
  The law PriceNone: the methods of a model that is nil or zero. No condition.
-/
import Derived.Test.YtolmmfbgljgdcaaPrL
import Derived.Test.YtolmmfbgljgdcaaPrM
import Derived.Test.YtolmmfbgljgdcaaPrQ
import Derived.Deep.CutRange
import Derived.LoopN
import Derived.Shelf.RegionOpen
import Derived.Sort.QuietIn
namespace Go.Proofs.Ytolmmfbgljgdcaa
open Go.RowKit Go.Port

attribute [local go_sem] Oper.semAt_some

theorem prfn_nil (f : Nat) (lb : Array Value) (w : World) : (binOp .eql 60 (.func (.func f) #[] lb) .nilFunc).run Try.prog w = .ok (.bool false) w := by kernel_rfl

theorem preq3 (w : World) : (binOp .eql 66 (.agg #[.int .i64 0, .int .i64 0, .int .i64 0]) (.agg #[.int .i64 0, .int .i64 0, .int .i64 0])).run Try.prog w = .ok (.bool true) w := by kernel_rfl
set_option maxRecDepth 1000000 in
set_option maxHeartbeats 8000000 in
theorem PriceNone_walk (w : World) (v0 : Value) (bs : List UInt8) (h0 : Rs w 1 v0 bs.length (bs.map bv)) (n s0 s1 s2 : Int) (zero : Bool) :
    Calls Try.prog 9 #[v0, .int .i64 n, .agg #[.int .i64 s0, .int .i64 s1, .int .i64 s2], .bool zero] w (RetV w (.bool true)) := by
  have HW := hid prworks_any
  obtain ⟨_, a, c, rfl, hk0, _, hn0, hc0⟩ := h0
  have hX0 := (Blk.new w [.int .i64 s0, .int .i64 s1, .int .i64 s2] 57).alloc (.cells #[.bool false] 4)
  have hR0 : Blk ((w.alloc (.cells #[.int .i64 s0, .int .i64 s1, .int .i64 s2] 57)).alloc (.cells #[.bool false] 4)) (w.heap.size + 1) [.bool false] 4 := Blk.newAt (by simp)
  have hB0 := (below_new w (.cells #[.int .i64 s0, .int .i64 s1, .int .i64 s2] 57)).alloc (by simp) (.cells #[.bool false] 4)
  have HD0 := hid (show Cs w a (bs.map bv) from hc0)
  have HX0 := hid hX0
  have HR0 := hid hR0
  have HB0 := hid hB0
  have HN0 := hid (And.intro hk0 hn0)
  clear hR0 hB0 hX0 hc0 hk0 hn0
  by_cases hlim : 40 < (bs.length : Int)
  · go_enter Try.func9, Try.ntmps9
    go_wp2_with fail
    generalize (w.alloc (.cells #[.int .i64 s0, .int .i64 s1, .int .i64 s2] 57)).alloc (.cells #[.bool false] 4) = w0 at *
    refine (HW.out _).mono ?_
    rintro e w1 ⟨rfl, hb⟩
    have HR1 := hid (HR0.out.below hb HR0.out.lt)
    have HB1 := hid (HB0.out.trans (hb.mono HB0.out.size))
    have hz := HR1.out.frozen 0
    have hc := HR1.out.cell (k := 0) rfl
    clear hb
    go_wp2
    have hrs := HR1.out.set 0 (.bool true)
    have hbs := HB1.out.setCell (p := ⟨w.heap.size + 1, 0, none⟩) (Nat.le_succ _) (.bool true)
    clear hz hc
    have q1 := hrs.cell (k := 0) rfl
    generalize w1.setCell ⟨w.heap.size + 1, 0, none⟩ (.bool true) = W9 at *
    refine bodyPost_ret (v := .bool true) (by simp [results, Try.results9, go_sem, q1]) rfl ?_
    exact ⟨rfl, hbs⟩
  refine (callsIn_wide (n := 1)).1 ?_
  refine callsIn_of_wp_marks Try.func9 rfl trivial ?_ rfl
  simp only [Try.ntmps9, List.size_toArray, List.length_cons, List.length_nil, Nat.reduceAdd, Nat.reduceSub, Array.replicate_succ, Array.replicate_zero, List.push_toArray, List.append_toArray, List.nil_append, List.cons_append]
  refine wpIn_wide.2 ?_
  go_upto_if 26 with (fail)
  generalize (w.alloc (.cells #[.int .i64 s0, .int .i64 s1, .int .i64 s2] 57)).alloc (.cells #[.bool false] 4) = w0 at *
  have hlim' : ¬ 40 < (bs.length : Int) := hlim
  go_upto_if 28 with (fail)
  go_cut [9] from 9 to 30 (fun t wx => ∃ q, t = .pointer q ∧ NoPr wx q ∧ Below w0.heap.size w0 wx)
  case first =>
    cases zero with
    | false =>
      go_wp2_with fail
      go_meet
      exact ⟨none, rfl, .inl rfl, Below.refl _ _⟩
    | true =>
      have HZ := hid (Blk.new w0 [.pointer none] 65)
      have HBz := hid (below_new w0 (.cells #[.pointer none] 65))
      go_wp2_with fail
      go_meet
      exact ⟨_, rfl, .inr ⟨_, rfl, HZ.out⟩, HBz.out⟩
  case rest =>
    obtain ⟨q, rfl, hno, hbc⟩ := hcut
    have HR1 := hid (HR0.out.below hbc HR0.out.lt)
    have HX1 := hid (HX0.out.below hbc HX0.out.lt)
    have HB1 := hid (HB0.out.trans (hbc.mono HB0.out.size))
    have HNo1 := hid hno
    clear hbc hno HR0 HB0 HX0
    generalize wc = w1 at *
    go_wp2_with fail
    refine (prll_none w1 q HNo1.out n).mono ?_
    rintro e w2 ⟨rfl, hb⟩
    have HR2 := hid (HR1.out.below hb HR1.out.lt)
    have HX2 := hid (HX1.out.below hb HX1.out.lt)
    have HB2 := hid (HB1.out.trans (hb.mono HB1.out.size))
    have HNo2 := hid (HNo1.out.low hb)
    clear hb HR1 HX1 HB1 HNo1
    go_wp2_with fail
    refine (prov_none w2 q HNo2.out n).mono ?_
    rintro e w3 ⟨rfl, hb⟩
    have HR3 := hid (HR2.out.below hb HR2.out.lt)
    have HX3 := hid (HX2.out.below hb HX2.out.lt)
    have HB3 := hid (HB2.out.trans (hb.mono HB2.out.size))
    have HNo3 := hid (HNo2.out.low hb)
    clear hb HR2 HX2 HB2 HNo2
    go_wp2_with fail
    refine (prml_none w3 q HNo3.out n).mono ?_
    rintro e w4 ⟨rfl, hb⟩
    have HR4 := hid (HR3.out.below hb HR3.out.lt)
    have HX4 := hid (HX3.out.below hb HX3.out.lt)
    have HB4 := hid (HB3.out.trans (hb.mono HB3.out.size))
    have HNo4 := hid (HNo3.out.low hb)
    clear hb HR3 HX3 HB3 HNo3
    go_wp2_with fail
    refine (prma_none w4 q HNo4.out n n).mono ?_
    rintro e w5 ⟨rfl, hb⟩
    have HR5 := hid (HR4.out.below hb HR4.out.lt)
    have HX5 := hid (HX4.out.below hb HX4.out.lt)
    have HB5 := hid (HB4.out.trans (hb.mono HB4.out.size))
    have HNo5 := hid (HNo4.out.low hb)
    clear hb HR4 HX4 HB4 HNo4
    have c0 := HX5.out.cell (k := 0) rfl
    have c1 := HX5.out.cell (k := 1) rfl
    have c2 := HX5.out.cell (k := 2) rfl
    go_wp2_with fail
    clear c0 c1 c2
    refine (prseq_none w5 q HNo5.out 1 4 8 s0 s1 s2).mono ?_
    rintro e w6 ⟨rfl, hb⟩
    have HR6 := hid (HR5.out.below hb HR5.out.lt)
    have HX6 := hid (HX5.out.below hb HX5.out.lt)
    have HB6 := hid (HB5.out.trans (hb.mono HB5.out.size))
    have HNo6 := hid (HNo5.out.low hb)
    clear hb HR5 HX5 HB5 HNo5
    have hbA := (below_new w6 (.cells #[.int .i64 0, .int .i64 0, .int .i64 0] 66)).alloc (by simp) (.cells #[.int .i64 s0, .int .i64 s1, .int .i64 s2] 57)
    have HT7 := hid ((Blk.new w6 [.int .i64 0, .int .i64 0, .int .i64 0] 66).alloc (.cells #[.int .i64 s0, .int .i64 s1, .int .i64 s2] 57))
    have HR7 := hid (HR6.out.below hbA HR6.out.lt)
    have HB7 := hid (HB6.out.trans (hbA.mono HB6.out.size))
    have HNo7 := hid (HNo6.out.low hbA)
    have hXa := HX6.out.alloc (.cells #[.int .i64 0, .int .i64 0, .int .i64 0] 66)
    have c0 := hXa.cell (k := 0) rfl
    have c1 := hXa.cell (k := 1) rfl
    have c2 := hXa.cell (k := 2) rfl
    clear hbA HX6 hXa
    go_wp2_with fail
    clear c0 c1 c2 HR6 HB6 HNo6
    generalize (w6.alloc (.cells #[.int .i64 0, .int .i64 0, .int .i64 0] 66)).alloc (.cells #[.int .i64 s0, .int .i64 s1, .int .i64 s2] 57) = w7 at *
    refine (prplan_none w7 q HNo7.out a (some ⟨w6.heap.size + 1, 0, none⟩) bs.length c 1 1).mono ?_
    rintro e w8 ⟨rfl, hb⟩
    have HR8 := hid (HR7.out.below hb HR7.out.lt)
    have HT8 := hid (HT7.out.below hb HT7.out.lt)
    have HB8 := hid (HB7.out.trans (hb.mono HB7.out.size))
    have HNo8 := hid (HNo7.out.low hb)
    clear hb HR7 HB7 HNo7 HT7
    go_wp2_with fail
    refine (prprefixes_any w8 q a c bs (by omega) HN0.out.1 HN0.out.2 (HD0.out.low HB8.out)).mono ?_
    rintro e w9 ⟨q1, q2, b9, cb, rfl, _, _, hq1, hq2, _, hb⟩
    have hfn := fun W => prfn_nil 60 #[.pointer (some ⟨q1, 0, none⟩), .pointer (some ⟨q2, 0, none⟩)] W
    have HR9 := hid (HR8.out.below hb HR8.out.lt)
    have HT9 := hid (HT8.out.below hb HT8.out.lt)
    have HB9 := hid (HB8.out.trans (hb.mono HB8.out.size))
    have HNo9 := hid (HNo8.out.low hb)
    have HQ9 := hid hq1
    clear hb HR8 HB8 HNo8 HT8 hq1 hq2
    go_wp2_with fail
    clear hfn
    refine (wpIn_wide (n := 1)).1 ?_
    obtain ⟨⟩ : True := trivial
    apply wpIn_rangeStA (gf := 60) (lb := #[.pointer (some ⟨q1, 0, none⟩), .pointer (some ⟨q2, 0, none⟩)]) rfl (enters_of Try.func60 (by kernel_rfl) rfl) (encs := fun (_ : Unit) => #[.int .i64 0, .int .i64 0])
      (prpre1_none _ (fun k => k < w9.heap.size) (fun _ => false) q1 q2 q w9 HQ9.out HNo9.out) (fun _ => rfl)
      (fun _ W => Below w9.heap.size w9 W) (fun _ _ _ => False) (fun _ _ _ _ h hg hr => h.grown hg h.size (fun k hk => (hr k hk).1)) (fun _ _ _ _ _ h _ _ => h) (Below.refl _ _)
      0 (fun _ W => Below w9.heap.size w9 W) (fun _ _ _ h => h) (fun _ _ _ _ h => h.elim) (fun _ _ h => h)
    case hassign =>
      intro l' x W K hK
      gi_wp2
      exact hK
    case hbody =>
      intro l' pre x W hI hSp
      obtain ⟨rest, hr⟩ := hSp
      simp at hr
    case hrest =>
      intro D1 xs W hD hF hK
      have HR10 := hid (HR9.out.below hF HR9.out.lt)
      have HT10 := hid (HT9.out.below hF HT9.out.lt)
      have HB10 := hid (HB9.out.trans (hF.mono HB9.out.size))
      have HNo10 := hid (HNo9.out.low hF)
      have HK10 := hid hK
      have hDlow : w.heap.size + 1 < D1 := Nat.lt_of_lt_of_le HR9.out.lt hD
      have d0 := HT10.out.cell (k := 0) rfl
      have d1 := HT10.out.cell (k := 1) rfl
      have d2 := HT10.out.cell (k := 2) rfl
      clear hF hK hD
      have heq := preq3
      go_wp2_with (go_at_call 22; refine (pris_yes _ _ _).mono ?_; rintro e w' ⟨rfl, rfl⟩)
      refine (prlits_none W q HNo10.out _).mono ?_
      rintro e w' ⟨rfl, rfl⟩
      go_wp2_with fail
      refine (HW.out _).mono ?_
      rintro e w11 ⟨rfl, hb7⟩
      have HR7 := hid (HR10.out.below hb7 HR10.out.lt)
      have HB7 := hid (HB10.out.trans (hb7.mono HB10.out.size))
      have HK7 := hid (at_low' hb7 HK10.out)
      have hr7 := HR7.out.cell (k := 0) rfl
      have hz7 := HR7.out.frozen 0
      clear hb7 d0 d1 d2
      go_wp2
      have hrs := HR7.out.set 0 (.bool true)
      have hbs := HB7.out.setCell (p := ⟨w.heap.size + 1, 0, none⟩) (Nat.le_succ _) (.bool true)
      have hK1 : (w11.setCell ⟨w.heap.size + 1, 0, none⟩ (.bool true)).heap[D1]? = some (.deferred (some [])) := (Below.heap_setCell _ _ _ _ (by dsimp only; omega)).trans HK7.out
      generalize w11.setCell ⟨w.heap.size + 1, 0, none⟩ (.bool true) = W9 at *
      refine ⟨by simp, .inl ⟨_, _, rfl, run_takeDeferred hK1, ?_⟩⟩
      have k1 : ∀ o, Blk (W9.putObj D1 o) (w.heap.size + 1) [.bool true] 4 := fun o => (World.putObj_heap_other (by omega)).trans hrs
      have q1 := fun o => (k1 o).cell (k := 0) rfl
      refine ⟨.bool true, by simp [results, Try.results9, go_sem, q1], rfl, hbs.grown (grownBy_putObj' W9 D1 _) hbs.size (fun k hk => by cases hk; omega)⟩
end Go.Proofs.Ytolmmfbgljgdcaa
namespace Go.Proofs.Ytolmmfbgljgdcaa.LPriceNone
open Go.ChangeShapes Go.WideShapes Go.ChangeAt Go.RowKit Go.Port

set_option maxRecDepth 100000 in
theorem lifted (os : Os) (started : os.Started) (H : Type) (enc : TypeId × Value → H) :
    ReturnsInHanded {} Try.checked os 9 .any (Rows.priceNoneSpec.pre6 enc Try.prog Try.f9 Rows.priceNoneRow.domain false) (Rows.priceNoneSpec.post enc Try.prog Try.f9 false true false false) := by
  refine returnsInHanded_of_change (C := Try.checked) Try.own started (by kernel_rfl) Try.func9
    (ChangeSpec.witness6 (enc := enc) (C := Try.checked) false ⟨#[], #[.slice none 0 0, .int .i64 0, .agg #[.int .i64 0, .int .i64 0, .int .i64 0], .bool false], []⟩ 8 (by kernel_rfl) (by kernel_rfl) (by kernel_rfl) (by kernel_rfl)) ?_
  intro W base args ds gs before hval0 hW hcnd _
  have hval : ∀ (j : Nat) t v, Try.f9.params[j]? = some t → args[j]? = some v → Value.okWide Try.prog W .any base t v := hval0
  have hW' := hW
  obtain ⟨p, q, hA0, hV, rfl, hfz, hnd⟩ := hW
  have hA : DataW.TrodAll enc Try.prog W 0 (fun _ => true) true Try.f9.params.toList args.toList ds p := hA0
  rw [Try.params9] at hA hval
  obtain ⟨v0, vs0, d0, ds0, p0, q0, hargs, rfl, rfl, h0, r0⟩ := trodAll_cons hA
  obtain ⟨v1, vs1, d1, ds1, p1, q1, rfl, rfl, rfl, h1, r1⟩ := trodAll_cons r0
  obtain ⟨v2, vs2, d2, ds2, p2, q2, rfl, rfl, rfl, h2, r2⟩ := trodAll_cons r1
  obtain ⟨v3, vs3, d3, ds3, p3, q3, rfl, rfl, rfl, h3, r3⟩ := trodAll_cons r2
  obtain ⟨rfl, rfl, rfl⟩ := trodAll_nil r3
  obtain rfl : args = #[v0, v1, v2, v3] := by cases args; simp_all
  obtain ⟨rfl, rfl⟩ := trodVars_none hV
  obtain ⟨l0, hl0, wl0⟩ := open_rowV Try.underlying24 Try.underlying5 (by kernel_rfl) (hval 0 24 v0 rfl rfl) h0
  obtain ⟨bs0, hbs0, hn0⟩ := bytes_of wl0
  rw [hbs0, ← hn0] at hl0
  obtain ⟨a1, rfl, rfl, rfl, w1⟩ := open_int Try.underlying3 (hval 1 3 v1 rfl rfl) h1
  obtain ⟨x2, y2, z2, rfl, wx2, wy2, wz2⟩ := open_seq (hval 2 57 v2 rfl rfl) h2
  obtain ⟨a3, rfl, rfl, rfl⟩ := open_bool Try.underlying4 (hval 3 4 v3 rfl rfl) h3
  clear hA0 hval0
  simp only [List.append_nil] at hW'
  refine (PriceNone_walk W v0 bs0 hl0 a1 x2 y2 z2 a3).mono fun e W' ⟨he, hb⟩ => ?_
  subst he
  exact ⟨_, rfl, law_post Try.kids Try.full Try.underlying4 rfl rfl hW' (by rw [Try.params9]; decide) rfl rfl rfl hb⟩

theorem over : Rows.priceNoneRow.holds Try.pinned (OpenSpec.ofChange Rows.priceNoneSpec) :=
  OpenClaim.holds_of_wide 9 Try.f9 rfl rfl rfl rfl rfl rfl rfl ⟨rfl, rfl, rfl, rfl, rfl⟩ rfl rfl rfl rfl rfl (by kernel_rfl) Try.func9 (by kernel_rfl)
    (of_decide_eq_true (by kernel_rfl)) (by unfold Func.isWrapper; first | (rw [if_pos (by decide +kernel)]; kernel_rfl) | (rw [if_neg (by decide +kernel)]; exact ⟨rfl, rfl⟩))
    (fun os started H enc _ => lifted os started H enc)

/-- The statement. -/
theorem proved : Rows.PriceNoneSaid :=
  over
end Go.Proofs.Ytolmmfbgljgdcaa.LPriceNone
