/-
  The walks of layer 32 (price): Plan and Sequence of an absent model.
-/
import Derived.Test.YtolmmfbgljgdcaaPrT
import Derived.Laws.AppendOwnNone
import Derived.Lib.SliceRun
namespace Go.Proofs.Ytolmmfbgljgdcaa
open Go.RowKit Go.Port

set_option maxRecDepth 100000 in
theorem prplan_none (w : World) (p : Option Addr) (h : NoPr w p) (ad a : Option Addr) (n c m cl : Nat) :
    Calls Try.prog 29 #[.pointer p, .slice ad n c, .slice a m cl] w (RetV w (.tuple #[.int .i64 0, .int .i64 1])) := by
  have hW := hid (show Below w.heap.size w (((w.alloc (.cells #[.pointer p] 27)).alloc (.cells #[.slice ad n c] 24)).alloc (.cells #[.slice a m cl] 46)) from ((below_new w _).alloc (by simp) _).alloc (by simp; omega) _)
  have hx0 := hid (show Blk (((w.alloc (.cells #[.pointer p] 27)).alloc (.cells #[.slice ad n c] 24)).alloc (.cells #[.slice a m cl] 46)) (w.heap.size) [.pointer p] 27 from ((Blk.newAt rfl).alloc _).alloc _)
  have c0 := hx0.out.cell (k := 0) rfl
  have HT := hid (prtold_none _ p 58 #[.pointer (some ⟨w.heap.size, 0, none⟩), .pointer (some ⟨w.heap.size + 1, 0, none⟩), .pointer (some ⟨w.heap.size + 1 + 1, 0, none⟩)] (h.low hW.out))
  clear h
  go_enter Try.func29, Try.ntmps29
  go_wp2_with fail
  clear c0
  refine HT.out.mono ?_
  rintro e w2 ⟨rfl, hb⟩
  have HB := hid (hW.out.trans (hb.mono hW.out.size))
  clear hb
  go_wp2
  go_ret2
  exact ⟨rfl, HB.out⟩
set_option maxRecDepth 100000 in
theorem prseq_none (w : World) (p : Option Addr) (h : NoPr w p) (r0 r1 r2 s0 s1 s2 : Int) :
    Calls Try.prog 31 #[.pointer p, .agg #[.int .i64 r0, .int .i64 r1, .int .i64 r2], .agg #[.int .i64 s0, .int .i64 s1, .int .i64 s2]] w (RetV w (.tuple #[.int .i64 0, .agg #[.int .i64 0, .int .i64 0, .int .i64 0], .int .i64 1])) := by
  have hW := hid (show Below w.heap.size w ((((w.alloc (.cells #[.pointer p] 27)).alloc (.cells #[.int .i64 r0, .int .i64 r1, .int .i64 r2] 66)).alloc (.cells #[.int .i64 s0, .int .i64 s1, .int .i64 s2] 57)).alloc (.cells #[.int .i64 0, .int .i64 0, .int .i64 0] 66)) from (((below_new w _).alloc (by simp) _).alloc (by simp; omega) _).alloc (by simp; omega) _)
  have hx0 := hid (show Blk ((((w.alloc (.cells #[.pointer p] 27)).alloc (.cells #[.int .i64 r0, .int .i64 r1, .int .i64 r2] 66)).alloc (.cells #[.int .i64 s0, .int .i64 s1, .int .i64 s2] 57)).alloc (.cells #[.int .i64 0, .int .i64 0, .int .i64 0] 66)) (w.heap.size) [.pointer p] 27 from (((Blk.newAt rfl).alloc _).alloc _).alloc _)
  have hx3 := hid (show Blk ((((w.alloc (.cells #[.pointer p] 27)).alloc (.cells #[.int .i64 r0, .int .i64 r1, .int .i64 r2] 66)).alloc (.cells #[.int .i64 s0, .int .i64 s1, .int .i64 s2] 57)).alloc (.cells #[.int .i64 0, .int .i64 0, .int .i64 0] 66)) (w.heap.size + 1 + 1 + 1) [.int .i64 0, .int .i64 0, .int .i64 0] 66 from Blk.newAt (by simp))
  have c0 := hx0.out.cell (k := 0) rfl
  have HT := hid (prtold_none _ p 61 #[.pointer (some ⟨w.heap.size + 1, 0, none⟩), .pointer (some ⟨w.heap.size + 1 + 1, 0, none⟩), .pointer (some ⟨w.heap.size + 1 + 1 + 1, 0, none⟩), .pointer (some ⟨w.heap.size, 0, none⟩)] (h.low hW.out))
  clear h
  go_enter Try.func31, Try.ntmps31
  go_wp2_with fail
  clear c0
  refine HT.out.mono ?_
  rintro e w2 ⟨rfl, hb⟩
  have HB := hid (hW.out.trans (hb.mono hW.out.size))
  have HX := hid (hx3.out.below hb hx3.out.lt)
  clear hb
  have d0 := HX.out.cell (k := 0) rfl
  have d1 := HX.out.cell (k := 1) rfl
  have d2 := HX.out.cell (k := 2) rfl
  have z0 := HX.out.frozen 0
  have z1 := HX.out.frozen 1
  have z2 := HX.out.frozen 2
  have HB2 := hid (((HB.out.setCell (p := ⟨w.heap.size + 1 + 1 + 1, 0, none⟩) (by simp only; omega) (.int .i64 0)).setCell (p := ⟨w.heap.size + 1 + 1 + 1, 1, none⟩) (by simp only; omega) (.int .i64 0)).setCell (p := ⟨w.heap.size + 1 + 1 + 1, 2, none⟩) (by simp only; omega) (.int .i64 0))
  have HX2 := hid (((HX.out.set 0 (.int .i64 0)).set 1 (.int .i64 0)).set 2 (.int .i64 0))
  go_wp2
  clear d0 d1 d2 z0 z1 z2
  have q0 := HX2.out.cell (k := 0) rfl
  have q1 := HX2.out.cell (k := 1) rfl
  have q2 := HX2.out.cell (k := 2) rfl
  generalize ((w2.setCell ⟨w.heap.size + 1 + 1 + 1, 0, none⟩ (.int .i64 0)).setCell ⟨w.heap.size + 1 + 1 + 1, 1, none⟩ (.int .i64 0)).setCell ⟨w.heap.size + 1 + 1 + 1, 2, none⟩ (.int .i64 0) = w9 at *
  refine bodyPost_ret (v := .tuple #[.int .i64 0, .agg #[.int .i64 0, .int .i64 0, .int .i64 0], .int .i64 1]) (by simp [results, Try.results31, go_sem, q0, q1, q2]) rfl ?_
  exact ⟨rfl, HB2.out⟩
set_option maxRecDepth 100000 in
theorem bclone_any (a : Option Addr) (c : Nat) (bs : List UInt8) (w : World) (hnb : bs.length ≤ 1000000) (hnc : bs.length ≤ c) (hac : a = none → c = 0) (hc : Cs w a (bs.map bv)) :
    Calls Try.prog 59 #[.slice a bs.length c] w fun e w' => ∃ v, e = .returned v ∧ w'.ownsRow w.heap.size 5 1 v bs.length (bs.map bv) ∧ Below w.heap.size w w' := by
  cases a with
  | none =>
    have h0 : c = 0 := hac rfl
    have h1 : bs = [] := List.eq_nil_of_length_eq_zero (by omega)
    subst h0 h1
    have heq := fun (W : World) => Lib.run_eql_slice_nil (P := Try.prog) W 24 5 none 0 0 0 0 Try.underlying24
    go_enter Try.func59, Try.ntmps59
    go_wp2
    go_ret
    exact ⟨_, rfl, World.ownsRow_nil _ _ _ _, Below.refl _ _⟩
  | some ad =>
    have HC := hid (hc.low (below_new w (.cells #[] 5)))
    clear hc
    have heq := fun (W : World) => Lib.run_eql_slice_nil (P := Try.prog) W 24 5 (some ad) bs.length c 0 0 Try.underlying24
    go_enter Try.func59, Try.ntmps59
    go_wp2_with (at_builtin; refine Hid.out ?_)
    refine hid ?_
    refine wpList_appendsK rfl _ _ 24 rfl 5 _ 1 1 Try.underlying24 Try.info_u8 rfl (by decide) (by decide) _ w.heap.size _ 0 bs.length c (some ad) [] (bs.map bv) (by simp) ?hu rfl rfl hnc (fun h => by cases h) (by exact HC.out) (own_emptyK 1 (Nat.le_refl _)) ?hn ?hb ?hk
    case hu =>
      intro u hu
      obtain ⟨x, _, rfl⟩ := List.mem_map.1 hu
      rfl
    case hn => omega
    case hb => simp
    case hk =>
      intro v' w' hown hg
      rw [List.nil_append, Nat.zero_add] at hown
      have HSl := hid hown
      have HB := hid ((below_new w (.cells #[] 5)).grown hg (by simp) (fun k hk => ((own_emptyK (e := 5) 1 (Nat.le_refl w.heap.size)).lt k hk).1))
      clear hown hg
      go_wp2
      go_ret
      exact ⟨_, rfl, HSl.out, HB.out⟩
set_option maxRecDepth 100000 in
theorem prprefixes_any (w : World) (p a : Option Addr) (c : Nat) (bs : List UInt8) (hnb : bs.length ≤ 1000000) (hnc : bs.length ≤ c) (hac : a = none → c = 0) (hc : Cs w a (bs.map bv)) :
    Calls Try.prog 30 #[.pointer p, .slice a bs.length c] w fun e w' => ∃ q1 q2 b cb, e = .returned (.func (.func 60) #[] #[.pointer (some ⟨q1, 0, none⟩), .pointer (some ⟨q2, 0, none⟩)]) ∧ w.heap.size ≤ q1 ∧ w.heap.size ≤ q2 ∧ Blk w' q1 [.pointer p] 27 ∧ Blk w' q2 [.slice b bs.length cb] 24 ∧ w'.ownsRow w.heap.size 5 1 (.slice b bs.length cb) bs.length (bs.map bv) ∧ Below w.heap.size w w' := by
  have HX := hid (Blk.new w [.pointer p] 27)
  have HBl := hid (below_new w (.cells #[.pointer p] 27))
  have HK := hid (bclone_any a c bs _ hnb hnc hac (hc.low HBl.out))
  clear hc
  go_enter Try.func30, Try.ntmps30
  go_wp2_with fail
  generalize w.alloc (.cells #[.pointer p] 27) = w1 at *
  refine HK.out.mono ?_
  rintro e w2 ⟨v, rfl, hown, hb⟩
  obtain ⟨b, cb, rfl⟩ := own_slice hown
  have HO := hid ((own_le hown HBl.out.size).alloc (.cells #[.slice b bs.length cb] 24))
  have HX2 := hid ((HX.out.below hb HX.out.lt).alloc (.cells #[.slice b bs.length cb] 24))
  have HB2 := hid (HBl.out.trans ((hb.alloc hb.size (.cells #[.slice b bs.length cb] 24)).mono HBl.out.size))
  have HY := hid (Blk.new w2 [.slice b bs.length cb] 24)
  have HS := hid (show w.heap.size ≤ w2.heap.size from Nat.le_trans HBl.out.size hb.size)
  clear hown hb
  go_wp2
  go_ret
  exact ⟨_, _, _, _, rfl, Nat.le_refl _, HS.out, HX2.out, HY.out, HO.out, HB2.out⟩
end Go.Proofs.Ytolmmfbgljgdcaa
