/-
  The law BestHolds: for any scene (at most 100 bytes ahead, 100 bytes of data, 300 counts a histogram) and any path given by at most 100 choices: the result is a plan of the data, and no path is cheaper. No condition.
-/
import Derived.Test.YtiagbejfghincaaGreatX44
import Derived.Test.YtiagbejfghincaaGreatX47
import Derived.Test.YtiagbejfghincaaGreatX48
import Derived.Test.YtiagbejfghincaaGreatX49
import Derived.Test.YtiagbejfghincaaGreatX50
import Derived.OwnWalkIn
import Derived.TacticsInMore
import Derived.BigQuiet
import Derived.LoopIn
import Derived.Deep.LoopGhost
namespace Go.Proofs.YtiagbejfghincaaGreat
open Go.RowKit Go.Port
attribute [local go_sem] Oper.semAt_some
theorem fn_nilK (f : Nat) (lb : Array Value) (w : World) : (binOp .eql 61 (.func (.func f) #[] lb) .nilFunc).run Tryz.prog w = .ok (.bool false) w := by kernel_rfl
/-- What the law's blocks hold. -/
structure HoldAt (w W : World) (bs H Dt : List UInt8) (a1 a2 : Option Addr) (c1 c2 : Nat) (Wd D : Int) (Ar : Nat → Option Addr) (cp : Nat → Nat) (C : Nat → List Int) (F M : Nat) (ar : Option Addr) (cr Q : Nat) (ac : Option Addr) (cc : Nat) (ch : List UInt8) : Prop where
  e : BestAt W bs H.length Wd D F M ar cr Ar cp C
  s : SceneAt W a1 c1 H a2 c2 Dt Ar cp C
  v : Blk W Q [.pointer (some ⟨F, 0, none⟩), .pointer (some ⟨M, 0, none⟩), .slice ar bs.length cr, .int .i64 (H.length : Int), .int .i64 Wd, .int .i64 D, .slice (Ar 0) (C 0).length (cp 0), .slice (Ar 1) (C 1).length (cp 1), .slice (Ar 2) (C 2).length (cp 2), .slice (Ar 3) (C 3).length (cp 3)] 34
  x : Blk W w.heap.size [.slice a1 H.length c1, .slice a2 Dt.length c2, .int .i64 Wd, .int .i64 D, .slice (Ar 0) (C 0).length (cp 0), .slice (Ar 1) (C 1).length (cp 1), .slice (Ar 2) (C 2).length (cp 2), .slice (Ar 3) (C 3).length (cp 3)] 26
  c : Blk W (w.heap.size + 1) [.slice ac ch.length cc] 22
  cs : CellsAt W ac (ch.map bv)
  r : Blk W (w.heap.size + 2) [.bool false] 4
  below : Below w.heap.size w W
theorem HoldAt.low {w W W' : World} {bs H Dt : List UInt8} {a1 a2 : Option Addr} {c1 c2 : Nat} {Wd D : Int} {Ar : Nat → Option Addr} {cp : Nat → Nat} {C : Nat → List Int} {F M : Nat} {ar : Option Addr} {cr Q : Nat} {ac : Option Addr} {cc : Nat} {ch : List UInt8} (h : HoldAt w W bs H Dt a1 a2 c1 c2 Wd D Ar cp C F M ar cr Q ac cc ch) (hb : Below W.heap.size W W') : HoldAt w W' bs H Dt a1 a2 c1 c2 Wd D Ar cp C F M ar cr Q ac cc ch :=
  ⟨h.e.low hb, h.s.low hb, h.v.below hb h.v.lt, h.x.below hb h.x.lt, h.c.below hb h.c.lt, h.cs.low hb, h.r.below hb h.r.lt, h.below.trans (hb.mono h.below.size)⟩
set_option maxRecDepth 1000000 in
set_option maxHeartbeats 40000000 in
theorem BestHolds_walk (w : World) (a1 : Option Addr) (c1 : Nat) (H : List UInt8) (a2 : Option Addr) (c2 : Nat) (Dt : List UInt8) (Wd D : Int) (Ar : Nat → Option Addr) (cp : Nat → Nat) (C : Nat → List Int) (hs : SceneAt w a1 c1 H a2 c2 Dt Ar cp C) (vc : Value) (ch : List UInt8) (hvc : Rs w 1 vc ch.length (ch.map bv)) :
    Calls Tryz.prog 8 #[sceneV a1 H.length c1 a2 Dt.length c2 Wd D Ar cp C, vc] w (RetV w (.bool true)) := by
  obtain ⟨ac, cc, rfl, hcc, hca, hccl, _⟩ := Rs.bytes hvc
  have HW := hid works33_any
  have hX := (((Blk.newAt rfl : Blk (w.alloc (.cells #[.slice a1 H.length c1, .slice a2 Dt.length c2, .int .i64 Wd, .int .i64 D, .slice (Ar 0) (C 0).length (cp 0), .slice (Ar 1) (C 1).length (cp 1), .slice (Ar 2) (C 2).length (cp 2), .slice (Ar 3) (C 3).length (cp 3)] 26)) w.heap.size [.slice a1 H.length c1, .slice a2 Dt.length c2, .int .i64 Wd, .int .i64 D, .slice (Ar 0) (C 0).length (cp 0), .slice (Ar 1) (C 1).length (cp 1), .slice (Ar 2) (C 2).length (cp 2), .slice (Ar 3) (C 3).length (cp 3)] 26).alloc (.cells #[.slice ac ch.length cc] 22)).alloc (.cells #[.bool false] 4))
  have hCb := ((Blk.newAt (by simp) : Blk ((w.alloc (.cells #[.slice a1 H.length c1, .slice a2 Dt.length c2, .int .i64 Wd, .int .i64 D, .slice (Ar 0) (C 0).length (cp 0), .slice (Ar 1) (C 1).length (cp 1), .slice (Ar 2) (C 2).length (cp 2), .slice (Ar 3) (C 3).length (cp 3)] 26)).alloc (.cells #[.slice ac ch.length cc] 22)) (w.heap.size + 1) [.slice ac ch.length cc] 22).alloc (.cells #[.bool false] 4))
  have hRr := (Blk.newAt (by simp) : Blk (((w.alloc (.cells #[.slice a1 H.length c1, .slice a2 Dt.length c2, .int .i64 Wd, .int .i64 D, .slice (Ar 0) (C 0).length (cp 0), .slice (Ar 1) (C 1).length (cp 1), .slice (Ar 2) (C 2).length (cp 2), .slice (Ar 3) (C 3).length (cp 3)] 26)).alloc (.cells #[.slice ac ch.length cc] 22)).alloc (.cells #[.bool false] 4)) (w.heap.size + 2) [.bool false] 4)
  have hb0 : Below w.heap.size w (((w.alloc (.cells #[.slice a1 H.length c1, .slice a2 Dt.length c2, .int .i64 Wd, .int .i64 D, .slice (Ar 0) (C 0).length (cp 0), .slice (Ar 1) (C 1).length (cp 1), .slice (Ar 2) (C 2).length (cp 2), .slice (Ar 3) (C 3).length (cp 3)] 26)).alloc (.cells #[.slice ac ch.length cc] 22)).alloc (.cells #[.bool false] 4)) := ((below_new w _).alloc (by simp) _).alloc (by simp; omega) _
  have HM := hid (made33_any a1 a2 c1 c2 H Dt Wd D Ar cp C (((w.alloc (.cells #[.slice a1 H.length c1, .slice a2 Dt.length c2, .int .i64 Wd, .int .i64 D, .slice (Ar 0) (C 0).length (cp 0), .slice (Ar 1) (C 1).length (cp 1), .slice (Ar 2) (C 2).length (cp 2), .slice (Ar 3) (C 3).length (cp 3)] 26)).alloc (.cells #[.slice ac ch.length cc] 22)).alloc (.cells #[.bool false] 4)) (hs.low hb0))
  have HS0 := hid (hs.low hb0)
  have HX0 := hid hX
  have HCb0 := hid hCb
  have HCc0 := hid (hccl.low hb0)
  have HRr0 := hid hRr
  have HB0 := hid hb0
  have x0 := hX.cell (k := 0) rfl
  have x1 := hX.cell (k := 1) rfl
  have x2 := hX.cell (k := 2) rfl
  have x3 := hX.cell (k := 3) rfl
  have x4 := hX.cell (k := 4) rfl
  have x5 := hX.cell (k := 5) rfl
  have x6 := hX.cell (k := 6) rfl
  have x7 := hX.cell (k := 7) rfl
  generalize hbs : H ++ Dt = bs at HM
  unfold sceneV at HM ⊢
  clear hs hX hb0 hRr hCb hccl hcc hca
  refine (callsIn_wide (n := 1)).1 ?_
  refine callsIn_of_wp_marks Tryz.func8 rfl trivial ?_ rfl
  simp only [Tryz.ntmps8, List.size_toArray, List.length_cons, List.length_nil, Nat.reduceAdd, Nat.reduceSub, Array.replicate_succ, Array.replicate_zero, List.push_toArray, List.append_toArray, List.nil_append, List.cons_append]
  refine wpIn_wide.2 ?_
  go_wp2_with fail
  clear x0 x1 x2 x3 x4 x5 x6 x7
  generalize (((w.alloc (.cells #[.slice a1 H.length c1, .slice a2 Dt.length c2, .int .i64 Wd, .int .i64 D, .slice (Ar 0) (C 0).length (cp 0), .slice (Ar 1) (C 1).length (cp 1), .slice (Ar 2) (C 2).length (cp 2), .slice (Ar 3) (C 3).length (cp 3)] 26)).alloc (.cells #[.slice ac ch.length cc] 22)).alloc (.cells #[.bool false] 4)) = w0 at *
  refine HM.out.mono ?_
  rintro e w1 (⟨rfl, hb1⟩ | ⟨hok, F, M, ar, cr, rfl, hF, hM, hC, hcr, hb1⟩)
  · have hb2 := hb1.alloc hb1.size (.cells #[.pointer none, .pointer none, .slice none 0 0, .int .i64 0, .int .i64 0, .int .i64 0, .slice none 0 0, .slice none 0 0, .slice none 0 0, .slice none 0 0] 34)
    have HB1 := hid (HB0.out.trans (hb2.mono HB0.out.size))
    have HR1 := hid (HRr0.out.below hb2 HRr0.out.lt)
    clear hb1 hb2 HM hbs HS0 HX0 HRr0 HCb0 HCc0
    go_wp2_with fail
    refine (HW.out _).mono ?_
    rintro e w5 ⟨rfl, hb5⟩
    have HR5 := hid (HR1.out.below hb5 HR1.out.lt)
    have HB5 := hid (HB1.out.trans (hb5.mono HB1.out.size))
    have hr5 := HR5.out.cell (k := 0) rfl
    have hz5 := HR5.out.frozen 0
    have hr6 := (HR5.out.set 0 (.bool true)).cell (k := 0) rfl
    clear hb5
    go_wp2
    exact ⟨.bool true, by simp [results, Tryz.results8, go_sem, hr6], rfl, HB5.out.setCell (p := ⟨w.heap.size + 2, 0, none⟩) (by simp) _⟩
  obtain ⟨g1, g2, g3, g4, g5⟩ := hok
  have hdr : bs.drop H.length = Dt := by rw [← hbs, List.drop_left]
  have hbl : bs.length ≤ 200 := by rw [← hbs, List.length_append]; omega
  have hbn := below_new w1 (.cells #[.pointer (some ⟨F, 0, none⟩), .pointer (some ⟨M, 0, none⟩), .slice ar bs.length cr, .int .i64 (H.length : Int), .int .i64 Wd, .int .i64 D, .slice (Ar 0) (C 0).length (cp 0), .slice (Ar 1) (C 1).length (cp 1), .slice (Ar 2) (C 2).length (cp 2), .slice (Ar 3) (C 3).length (cp 3)] 34)
  have hb2 := hb1.trans (hbn.mono hb1.size)
  have HH2 := hid (show HoldAt w (w1.alloc (.cells #[.pointer (some ⟨F, 0, none⟩), .pointer (some ⟨M, 0, none⟩), .slice ar bs.length cr, .int .i64 (H.length : Int), .int .i64 Wd, .int .i64 D, .slice (Ar 0) (C 0).length (cp 0), .slice (Ar 1) (C 1).length (cp 1), .slice (Ar 2) (C 2).length (cp 2), .slice (Ar 3) (C 3).length (cp 3)] 34)) bs H Dt a1 a2 c1 c2 Wd D Ar cp C F M ar cr w1.heap.size ac cc ch from
    ⟨BestAt.low (⟨hF, hM, hC, ⟨HS0.out.hf.low hb1, g5⟩, hcr, hbl⟩ : BestAt w1 bs H.length Wd D F M ar cr Ar cp C) hbn, HS0.out.low hb2, Blk.new w1 _ _, HX0.out.below hb2 HX0.out.lt, HCb0.out.below hb2 HCb0.out.lt, HCc0.out.low hb2, HRr0.out.below hb2 HRr0.out.lt, HB0.out.trans (hb2.mono HB0.out.size)⟩)
  have HDr := hid hdr
  have HN := hid (show (bs.drop H.length).length = Dt.length from by rw [hdr])
  have HBs := hid hbs
  have HG := hid (And.intro g1 g2)
  have hd100 : Dt.length ≤ 100 := g2
  clear g1 g2 g3 g4 g5 hdr hbl hbn hb2 hb1 hF hM hC hcr HM HS0 HX0 HB0 HCb0 HCc0 HRr0 hbs
  go_upto_region 2 with fail
  generalize w1.alloc (.cells #[.pointer (some ⟨F, 0, none⟩), .pointer (some ⟨M, 0, none⟩), .slice ar bs.length cr, .int .i64 (H.length : Int), .int .i64 Wd, .int .i64 D, .slice (Ar 0) (C 0).length (cp 0), .slice (Ar 1) (C 1).length (cp 1), .slice (Ar 2) (C 2).length (cp 2), .slice (Ar 3) (C 3).length (cp 3)] 34) = w2 at *
  generalize w1.heap.size = Q at *
  have hcb := HH2.out.c.cell (k := 0) rfl
  by_cases hbig : (100 : Int) < (ch.length : Int)
  · go_wp2_with fail
    refine (HW.out _).mono ?_
    rintro e w5 ⟨rfl, hb5⟩
    have HH5 := hid (HH2.out.low hb5)
    have hr5 := HH5.out.r.cell (k := 0) rfl
    have hz5 := HH5.out.r.frozen 0
    have hr6 := (HH5.out.r.set 0 (.bool true)).cell (k := 0) rfl
    clear hb5
    go_wp2
    exact ⟨.bool true, by simp [results, Tryz.results8, go_sem, hr6], rfl, HH5.out.below.setCell (p := ⟨w.heap.size + 2, 0, none⟩) (by simp) _⟩
  have b0 := HH2.out.v.cell (k := 0) rfl
  have b1 := HH2.out.v.cell (k := 1) rfl
  go_wp2_with fail
  refine HH2.out.e.model.mono ?_
  rintro e w3 ⟨al, cl, rfl, hlc, hcl, hb3⟩
  clear b0 b1
  clear hcb
  have HH3 := hid (HH2.out.low hb3)
  clear HH2
  have HL3 := hid (And.intro hlc hcl)
  clear hlc hcl hb3
  have b0 := HH3.out.v.cell (k := 0) rfl
  have b1 := HH3.out.v.cell (k := 1) rfl
  go_wp2_with fail
  refine HH3.out.e.min.mono ?_
  rintro e w4 ⟨rfl, hb4⟩
  clear b0 b1
  have HH4 := hid (HH3.out.low hb4)
  clear HH3
  have HL4 := hid (And.intro HL3.out.1 (HL3.out.2.low hb4))
  clear hb4 HL3
  have b0 := HH4.out.v.cell (k := 0) rfl
  have b1 := HH4.out.v.cell (k := 1) rfl
  have x1 := HH4.out.x.cell (k := 1) rfl
  have hpd := HH4.out.e.pd (p := 0) (Nat.zero_le _) (w := w4) (al := al) (cl := cl) HL4.out.1 HL4.out.2 (ad := a2) (c := c2) (Nat.le_trans HH4.out.s.hm (by decide)) (by rw [List.drop_zero, HDr.out]; exact HH4.out.s.h2) HH4.out.s.h4 (by rw [List.drop_zero, HDr.out]; exact HH4.out.s.hc2)
  have hpl := prplan_any w4 M C HH4.out.e.pr al cl (planF C bs H.length Wd D 0) a2 c2 _ hpd (fun s hs => by have := HH4.out.e.mem (Nat.zero_le _) s hs; omega)
  unfold planV at hpl
  rw [if_pos (HH4.out.e.is (Nat.zero_le _)).2.1, (HH4.out.e.is (Nat.zero_le _)).2.2.1, List.drop_zero, HDr.out] at hpl
  have HPl := hid (show Calls Tryz.prog 23 #[.pointer (some ⟨M, 0, none⟩), .slice a2 Dt.length c2, .slice al (planF C bs H.length Wd D 0).length cl] w4 (RetV w4 (.tuple #[.int .i64 (costF C bs H.length Wd D 0), .int .i64 0])) from hpl)
  clear hpd hpl
  go_wp2_with fail
  refine HPl.out.mono ?_
  rintro e w5 ⟨rfl, hb5⟩
  clear b0 b1
  clear x1
  have HH5 := hid (HH4.out.low hb5)
  clear HH4
  have HL5 := hid (HL4.out.2.low hb5)
  clear hb5 HPl HL4
  have HIs := hid (ris22_ok H Dt Wd (planF C bs H.length Wd D 0) al cl a1 a2 c1 c2 w5 (by have h1 := (HH5.out.e.is (p := 0) (Nat.zero_le _)).1; have h2 := HH5.out.e.hn; omega) HL5.out ⟨by have := HG.out.1; omega, by omega⟩ HH5.out.s.h1 HH5.out.s.h2 HH5.out.s.h3 HH5.out.s.h4 HH5.out.s.hc1 HH5.out.s.hc2 HH5.out.e.fd.hW (by
    rw [HBs.out]
    exact path_ver HH5.out.e.fd.hA _ 0 (Int.le_refl _) (HH5.out.e.is (p := 0) (Nat.zero_le _)).2.2.2))
  have hlt : (costF C bs H.length Wd D 0) ≤ litsC C Dt := by
    have h := least_lits C (bs.drop H.length) (chF bs H.length Wd D) (i := 0) (bs.drop H.length).length (by omega)
    rw [List.drop_zero, List.take_of_length_le (Nat.le_refl _), Nat.zero_add, least_end, ← costF_least, HDr.out] at h
    omega
  have b0 := HH5.out.v.cell (k := 0) rfl
  have b1 := HH5.out.v.cell (k := 1) rfl
  have x0 := HH5.out.x.cell (k := 0) rfl
  have x1 := HH5.out.x.cell (k := 1) rfl
  have x2 := HH5.out.x.cell (k := 2) rfl
  go_wp2_with (go_at_call 17; refine (num33_any _ _).mono ?_; rintro e w' ⟨rfl, rfl⟩)
  refine HIs.out.mono ?_
  rintro e w6 ⟨rfl, hb6⟩
  clear b0 b1
  clear x0 x1 x2
  have HH6 := hid (HH5.out.low hb6)
  clear HH5
  clear hb6 HIs HL5
  have HLt := hid (prlits_any w6 M C HH6.out.e.pr a2 c2 Dt (by omega) HH6.out.s.hc2)
  have hng : ¬ litsC C Dt < (costF C bs H.length Wd D 0) := by omega
  obtain ⟨LT, hLT⟩ : ∃ LT, litsC C Dt = LT := ⟨_, rfl⟩
  obtain ⟨L0, hL0⟩ : ∃ L0, (costF C bs H.length Wd D 0) = L0 := ⟨_, rfl⟩
  rw [hLT] at HLt hng
  rw [hL0] at hng ⊢
  have HL0 := hid hL0
  clear hlt hLT hL0
  have b0 := HH6.out.v.cell (k := 0) rfl
  have b1 := HH6.out.v.cell (k := 1) rfl
  have x1 := HH6.out.x.cell (k := 1) rfl
  go_wp2_with (go_at_call 25; refine HLt.out.mono ?_; rintro e w' ⟨rfl, rfl⟩)
  clear b0 b1
  clear x1
  clear HLt hng
  have HT7 := hid (Blk.new w6 [.int .i64 0] 3)
  have hb7 := below_new w6 (.cells #[.int .i64 0] 3)
  have HH7 := hid (HH6.out.low hb7)
  clear HH6
  clear hb7
  generalize w6.heap.size = T at *
  generalize w6.alloc (.cells #[.int .i64 0] 3) = w7 at *
  have HD7 := hid (show DfOk (w.heap.size + 3) [] w7 from ⟨List.Pairwise.nil, fun D h => by cases h⟩)
  refine wp_loop_rounds 3 ?_
  rw [rounds_succ]
  have ht0 := HT7.out.cell (k := 0) rfl
  have x1 := HH7.out.x.cell (k := 1) rfl
  go_wp2_with fail
  clear ht0 x1
  have HI1 := hid (Blk.new w7 [.int .i64 0] 3)
  have HBi1 := hid (below_new w7 (.cells #[.int .i64 0] 3))
  have HDi1 := hid (HD7.out.low HBi1.out)
  have hTl1 := HT7.out.lt
  have HTl1 := hid hTl1
  clear hTl1
  obtain ⟨I0, hI0⟩ : ∃ I0, w7.heap.size = I0 := ⟨_, rfl⟩
  rw [hI0] at HI1 ⊢
  have HIe1 := hid hI0
  clear hI0
  generalize w7.alloc (.cells #[.int .i64 0] 3) = wi1 at *
  refine wp_loop_ghost_k (fun (gk : Nat) (a : Act) (wr : World) => ∃ (ds : List Nat) (p q i I : Nat) (zk zp : Int) (pre : List Sq) (v : Value), (∃ z : Nat → Value, a = { tmps := #[z 0, z 1, .pointer (some ⟨w.heap.size, 0, none⟩), .pointer (some ⟨w.heap.size + 1, 0, none⟩), .pointer (some ⟨w.heap.size + 2, 0, none⟩), .pointer (some ⟨Q, 0, none⟩), z 6, z 7, z 8, .int .i64 L0, z 10, z 11, z 12, .pointer (some ⟨T, 0, none⟩), v, .int .i64 zk, .int .i64 zp, .pointer (some ⟨I, 0, none⟩), z 18, z 19, z 20, z 21, z 22, z 23, z 24, z 25, z 26, z 27, z 28, z 29, z 30, z 31, z 32, z 33, z 34, z 35, z 36, z 37, z 38, z 39, z 40, z 41, z 42, z 43, z 44, z 45, z 46, z 47, z 48, z 49, z 50, z 51, z 52, z 53, z 54, z 55, z 56, z 57, z 58, z 59, z 60, z 61, z 62, z 63, z 64, z 65, z 66, z 67, z 68, z 69, z 70, z 71, z 72, z 73, z 74, z 75, z 76, z 77, z 78, z 79, z 80, z 81, z 82, z 83, z 84, z 85, z 86, z 87, z 88, z 89, z 90, z 91, z 92, z 93, z 94, z 95, z 96, z 97, z 98, z 99, z 100, z 101, z 102, z 103, z 104, z 105, z 106, z 107, z 108, z 109, z 110, z 111, z 112, z 113, z 114, z 115, z 116, z 117, z 118, z 119, z 120, z 121, z 122, z 123, z 124, z 125, z 126, z 127, z 128, z 129, z 130, z 131, z 132, z 133, z 134, z 135, z 136, z 137, z 138, z 139, z 140, z 141, z 142, z 143, z 144, z 145, z 146, z 147, z 148, z 149, z 150, z 151, z 152, z 153, z 154, z 155, z 156, z 157, z 158, z 159, z 160, z 161, z 162, z 163, z 164, z 165, z 166, z 167, z 168, z 169, z 170, z 171, z 172, z 173, z 174, z 175, z 176, z 177, z 178, z 179, z 180, z 181, z 182, z 183, z 184, z 185, z 186, z 187, z 188, z 189, z 190, z 191, z 192, z 193, z 194, z 195, z 196, z 197, z 198, z 199, z 200, z 201, z 202, z 203, z 204, z 205, z 206, z 207, z 208, z 209, z 210, z 211, z 212, z 213, z 214, z 215, z 216, z 217, z 218, z 219, z 220, z 221, z 222, z 223, z 224, z 225, z 226, z 227, z 228, z 229, z 230, z 231, z 232], defers := dfs ds }) ∧ gk = Dt.length - p ∧ p ≤ Dt.length ∧ zk = (q : Int) ∧ zp = (p : Int) ∧ Hid (isPath (chF bs H.length Wd D) (Dt.length : Nat) 0 pre = true ∧ lend 0 pre + (q : Int) = (p : Int) ∧ pre.length ≤ p ∧ i ≤ p) ∧
    Hid (wr.ownsRow w7.heap.size 44 3 v pre.length (pre.flatMap sqc)) ∧ Hid (Blk wr I [.int .i64 (i : Int)] 3) ∧ Hid (DfOk (w.heap.size + 3) ds wr) ∧ Hid (Below w7.heap.size w7 wr)) Dt.length ?st1 ?rd1
  case st1 =>
    refine ⟨[], 0, 0, 0, I0, 0, 0, [], .slice none 0 0, ?_, rfl, Nat.zero_le _, rfl, rfl, hid ⟨rfl, rfl, Nat.le_refl _, Nat.le_refl _⟩, hid (World.ownsRow_nil _ _ _ _), hid HI1.out, hid HDi1.out, hid HBi1.out⟩
    exact frame_ex (by kernel_rfl) rfl
  case rd1 =>
    rintro gk a' wr ⟨ds, p, q, i, I, zk, zp, pre, v, ⟨z, rfl⟩, hgk, hp, hzk, rfl, HPa, HOw, HIb, HDf, HBw⟩ J K hJ hK
    have HG1 := hid hgk
    have HZk := hid hzk
    clear hgk hzk
    have HHr := hid (HH7.out.low HBw.out)
    have HTr := hid (HT7.out.below HBw.out HT7.out.lt)
    by_cases hpn : p < Dt.length
    · have hpI : (p : Int) < (Dt.length : Int) := by omega
      have x1 := HHr.out.x.cell (k := 1) rfl
      have b0 := HHr.out.v.cell (k := 0) rfl
      have hbz : Below wr.heap.size wr ((wr.alloc (.cells #[.int .i64 0, .int .i64 0, .int .i64 0] 44)).alloc (.cells #[.bool false] 4)) := (below_new wr _).alloc (by simp) _
      have HSa := hid (show Blk ((wr.alloc (.cells #[.int .i64 0, .int .i64 0, .int .i64 0] 44)).alloc (.cells #[.bool false] 4)) wr.heap.size [.int .i64 0, .int .i64 0, .int .i64 0] 44 from (Blk.newAt rfl).alloc _)
      have HSb := hid (show Blk ((wr.alloc (.cells #[.int .i64 0, .int .i64 0, .int .i64 0] 44)).alloc (.cells #[.bool false] 4)) (wr.heap.size + 1) [.bool false] 4 from Blk.newAt (by simp))
      have HSz := hid (show ((wr.alloc (.cells #[.int .i64 0, .int .i64 0, .int .i64 0] 44)).alloc (.cells #[.bool false] 4)).heap.size = wr.heap.size + 2 from by simp)
      have HBz := hid hbz
      clear hbz
      have x1z := HBz.out.cell (p := ⟨w.heap.size, 1, none⟩) HHr.out.x.lt
      have b0z := (HHr.out.v.below HBz.out HHr.out.v.lt).cell (k := 0) rfl
      go_wp2_with fail
      clear x1 b0 x1z b0z
      generalize ((wr.alloc (.cells #[.int .i64 0, .int .i64 0, .int .i64 0] 44)).alloc (.cells #[.bool false] 4)) = wz at *
      refine (bcand_any bs H.length Wd D F (p : Int) wz (HHr.out.e.fd.low HBz.out)).mono ?_
      rintro e w5 ⟨g, a5, rfl, hg5, hgb, hgc, hb5, hax⟩
      have HSa5 := hid (HSa.out.below hb5 HSa.out.lt)
      have HSb5 := hid (HSb.out.below hb5 HSb.out.lt)
      have HB5 := hid (HBz.out.trans (hb5.mono HBz.out.size))
      have HSz5 := hid (show wr.heap.size + 2 ≤ w5.heap.size from by have := hb5.size; have := HSz.out; omega)
      have HGb := hid (show wr.heap.size + 2 ≤ g from by have := HSz.out; omega)
      have HGc := hid hgb
      have HRow := hid (fun j u (hu : ((bSteps (allS bs H.length Wd D (p : Int))).flatMap sqc)[j]? = some u) => show ∃ b off, a5 = some ⟨b, off, none⟩ ∧ (wr.heap.size + 2 ≤ b ∧ b < w5.heap.size) ∧ w5.cell? ⟨b, off + j, none⟩ = some u from by
        obtain ⟨b, off, e, hb, hc⟩ := hgc j u hu
        subst e
        exact ⟨b, off, rfl, ⟨by have := hax _ rfl; have := HSz.out; dsimp only at *; omega, hb⟩, hc⟩)
      have hml := bSteps_length (allS bs H.length Wd D (p : Int))
      have HCh := hid (show ∀ y ∈ bSteps (allS bs H.length Wd D (p : Int)), y ∈ chF bs H.length Wd D (p : Int) from fun y hy => hy)
      have hfn := fun W => fn_nilB 36 #[.pointer (some ⟨g, 0, none⟩)] W
      clear hg5 hgb hgc hb5 hax HSa HSb HBz HSz
      generalize bSteps (allS bs H.length Wd D (p : Int)) = ml at *
      go_wp2_with fail
      clear hfn
      refine (wpIn_wide (n := 1)).1 ?_
      have hsz5 := HSz5.out
      have hgb5 := HGb.out
      apply wpIn_rangeStBx (gf := 36) (lb := #[.pointer (some ⟨g, 0, none⟩)]) rfl (enters_of Tryz.func36 (by kernel_rfl) rfl) (encs := encsP)
        (bcand1_seq (fun k => wr.heap.size + 2 ≤ k ∧ k < w5.heap.size) (fun _ => false) g a5 ml.length ml w5 (by omega) ⟨hgb5, HGc.out.lt⟩ (HGc.out.cell (k := 0) rfl) HRow.out) (fun _ => rfl)
        (fun xs W => PickI wr 44 4 (xs.map (·.2)) W) (fun _ _ _ => False) (PickI.stays wr 44 4 (by omega)) (fun _ _ _ _ _ hf _ _ => hf)
        ⟨none, (fun s e => by cases e), HSa5.out, HSb5.out, HB5.out⟩
        4 (fun _ W => PickI wr 44 4 ml W) (fun xs W hS hI => by subst hS; rw [enumQ_snd] at hI; exact hI) (fun _ _ _ _ hf => hf.elim) (fun _ _ hq => hq) (fun x => sqc x.2) 44
        (Rx := fun _ _ => True) (hRs := fun q _ W W' row hr hg hro => trivial) (hR := fun pre x W hI => trivial)
      case hassign =>
        intro l' pre x W K hI hSp hK
        unfold encsP sqv
        obtain ⟨q, hq⟩ : ∃ q, q = W.heap.size := ⟨_, rfl⟩
        have HK := hid (hK q hq)
        have HQ := hid hq
        clear hK hI hSp hq
        gi_wp2
        rw [← HQ.out]
        exact HK.out
      case hbody =>
        rintro l' pr ⟨x1, ⟨xl, xn, xo⟩⟩ qq W ⟨o, ho, hs1, hs2, hbW⟩ hq hRt hSp
        obtain ⟨hn1, hx1⟩ := enumQ_next hSp
        dsimp only at hx1
        subst hx1
        have q0 := hq.cell (k := 0) rfl
        have q1 := hq.cell (k := 1) rfl
        have q2 := hq.cell (k := 2) rfl
        dsimp only [sqc] at q0 q1 q2
        have s0 := hs1.cell (k := 0) rfl
        have s1 := hs1.cell (k := 1) rfl
        have s2 := hs1.cell (k := 2) rfl
        have sz0 := hs1.frozen 0
        have sz1 := hs1.frozen 1
        have sz2 := hs1.frozen 2
        have s3 := hs2.cell (k := 0) rfl
        have sz3 := hs2.frozen 0
        have hTc := (HTr.out.below hbW HTr.out.lt).cell (k := 0) rfl
        have hIc := (HIb.out.below hbW HIb.out.lt).cell (k := 0) rfl
        have hCc := (HHr.out.c.below hbW HHr.out.c.lt).cell (k := 0) rfl
        have hprl : pr.length < ml.length := (List.getElem?_eq_some_iff.1 hn1).1
        have HSt := hid (show KeepsT (fun k => wr.heap.size + 2 ≤ k ∧ k < w5.heap.size) w5.heap.size (fun _ => false) W ((((W.setCell ⟨wr.heap.size, 0, none⟩ (.int .i64 xl)).setCell ⟨wr.heap.size, 1, none⟩ (.int .i64 xn)).setCell ⟨wr.heap.size, 2, none⟩ (.int .i64 xo)).setCell ⟨wr.heap.size + 1, 0, none⟩ (.bool true)) ∧ PickI wr 44 4 ((pr ++ [((pr.length : Int), (⟨xl, xn, xo⟩ : Sq))]).map (·.2)) ((((W.setCell ⟨wr.heap.size, 0, none⟩ (.int .i64 xl)).setCell ⟨wr.heap.size, 1, none⟩ (.int .i64 xn)).setCell ⟨wr.heap.size, 2, none⟩ (.int .i64 xo)).setCell ⟨wr.heap.size + 1, 0, none⟩ (.bool true)) from by
          refine ⟨(((KeepsT.set _ ⟨wr.heap.size, 0, none⟩ _ (by dsimp only; omega) (by dsimp only; omega)).trans (KeepsT.set _ ⟨wr.heap.size, 1, none⟩ _ (by dsimp only; omega) (by dsimp only; omega))).trans (KeepsT.set _ ⟨wr.heap.size, 2, none⟩ _ (by dsimp only; omega) (by dsimp only; omega))).trans (KeepsT.set _ ⟨wr.heap.size + 1, 0, none⟩ _ (by dsimp only; omega) (by dsimp only; omega)), ⟨some ⟨xl, xn, xo⟩, (fun s e => by cases e; simp), ?_, ?_, ?_⟩⟩
          · exact (((hs1.set 0 (.int .i64 xl)).set 1 (.int .i64 xn)).set 2 (.int .i64 xo)).other (a := ⟨wr.heap.size + 1, 0, none⟩) (.bool true) (by dsimp only; omega)
          · exact (((hs2.other (a := ⟨wr.heap.size, 0, none⟩) (.int .i64 xl) (by dsimp only; omega)).other (a := ⟨wr.heap.size, 1, none⟩) (.int .i64 xn) (by dsimp only; omega)).other (a := ⟨wr.heap.size, 2, none⟩) (.int .i64 xo) (by dsimp only; omega)).set 0 (.bool true)
          · exact (((hbW.setCell (p := ⟨wr.heap.size, 0, none⟩) (Nat.le_refl _) _).setCell (p := ⟨wr.heap.size, 1, none⟩) (Nat.le_refl _) _).setCell (p := ⟨wr.heap.size, 2, none⟩) (Nat.le_refl _) _).setCell (p := ⟨wr.heap.size + 1, 0, none⟩) (Nat.le_succ _) _)
        have HNo := hid (show KeepsT (fun k => wr.heap.size + 2 ≤ k ∧ k < w5.heap.size) w5.heap.size (fun _ => false) W W ∧ PickI wr 44 4 ((pr ++ [((pr.length : Int), (⟨xl, xn, xo⟩ : Sq))]).map (·.2)) W from
          ⟨KeepsT.refl _ _ _ _, ⟨o, (fun s e => by rw [List.map_append]; exact List.mem_append_left _ (ho s e)), hs1, hs2, hbW⟩⟩)
        have hw7 : IntKind.i64.wrap ((pr.length : Int) + 1) = (pr.length : Int) + 1 := by rw [IntKind.wrap_i64]; omega
        by_cases hci : i < ch.length
        · obtain ⟨y, hy⟩ : ∃ y, ch[i]? = some y := ⟨ch[i], by simp [hci]⟩
          obtain ⟨bl, off, e5, _, z5⟩ := (HHr.out.cs.low hbW) i (bv y) (by rw [List.getElem?_map, hy]; rfl)
          rw [e5] at hCc
          unfold bv at z5
          have hciI : (i : Int) < (ch.length : Int) := by omega
          have hi0 : ¬ (i : Int) < 0 := by omega
          have hwy : IntKind.i64.wrap (y.toNat : Int) = (y.toNat : Int) := by have := y.toNat_lt; rw [IntKind.wrap_i64]; omega
          clear hs1 hs2 hq hSp hn1 ho hbW hRt hy e5
          by_cases hyy : (pr.length : Int) + 1 = (y.toNat : Int)
          · gi_wp2
            exact HSt.out
          · gi_wp2
            exact HNo.out
        · have hciI : ¬ (i : Int) < (ch.length : Int) := by omega
          clear hs1 hs2 hq hSp hn1 ho hbW hRt
          gi_wp2
          exact HNo.out
      case hrest =>
        rintro DD xs W hDD ⟨o, ho, hs1, hs2, hbW⟩ hK9
        have HDn := hid (HDf.out.cons hbW (by omega) (by have := HHr.out.r.lt; omega) hK9)
        have HIw := hid (HIb.out.below hbW HIb.out.lt)
        have HHw := hid (HHr.out.low hbW)
        have HOw5 := hid (own_low HOw.out hbW)
        have HBw5 := hid (HBw.out.trans (hbW.mono HBw.out.size))
        have hprelen := HPa.out.2.2.1
        have hile := HPa.out.2.2.2
        have hwi1 : IntKind.i64.wrap ((i : Int) + 1) = (i : Int) + 1 := by rw [IntKind.wrap_i64]; omega
        have HS2 := hid hs2
        have HS1 := hid hs1
        have HOlt := hid (fun kk (hk : v.ownBlock = some kk) => (HOw.out.lt kk hk).2)
        have s3 := hs2.cell (k := 0) rfl
        cases o with
        | none =>
          have hIc := HIw.out.cell (k := 0) rfl
          have hzk := HZk.out
          have hq100 : q ≤ p := by
            have h1 := HPa.out.2.1
            have : 0 ≤ lend 0 pre := isPath_end HHr.out.e.ch pre 0 (by rw [HN.out]; exact HPa.out.1)
            omega
          have hwk : IntKind.i64.wrap (zk + 1) = zk + 1 := by rw [IntKind.wrap_i64]; omega
          have hwp : IntKind.i64.wrap ((p : Int) + 1) = (p : Int) + 1 := by rw [IntKind.wrap_i64]; omega
          clear hs1 hs2 ho hbW hK9 hDD hzk
          go_wp2
          refine Handed.intro (Dt.length - (p + 1)) (by have := HG1.out; omega) (hJ _ _ _ ?_)
          have hbn := below_new W (.cells #[.int .i64 ((i : Int) + 1)] 3)
          refine ⟨DD :: ds, p + 1, q + 1, i + 1, W.heap.size, zk + 1, (p : Int) + 1, pre, v, ?_, rfl, hpn, by have := HZk.out; omega, by omega, hid ⟨HPa.out.1, by have := HPa.out.2.1; omega, by omega, by omega⟩, hid (own_low HOw5.out hbn), hid ?_, hid (HDn.out.low hbn), hid (HBw5.out.trans (hbn.mono HBw5.out.size))⟩
          · exact frame_ex (by kernel_rfl) rfl
          · exact Blk.new W [.int .i64 ((i : Int) + 1)] 3
        | some y =>
          obtain ⟨_, hy0, hy1, hy2, hy3, hy4⟩ := HHw.out.e.ch.inn (p : Int) y (HCh.out y (ho y rfl))
          rw [HN.out] at hy2
          have HYc := hid (HCh.out y (ho y rfl))
          obtain ⟨yl, yn, yo⟩ := y
          dsimp only at hy0 hy1 hy2 hy3 hy4
          obtain ⟨L, hL⟩ : ∃ L : Nat, yn = (L : Int) := ⟨yn.toNat, by omega⟩
          subst hL
          have s0 := hs1.cell (k := 0) rfl
          have s1 := hs1.cell (k := 1) rfl
          have s2 := hs1.cell (k := 2) rfl
          dsimp only [Option.getD_some, sqc] at s0 s1 s2
          have x1 := HHw.out.x.cell (k := 1) rfl
          have l1 : ¬ (L : Int) < 3 := by omega
          have l2 : ¬ (Dt.length : Int) - (p : Int) < (L : Int) := by omega
          have hwl : IntKind.i64.wrap ((Dt.length : Int) - (p : Int)) = (Dt.length : Int) - (p : Int) := by rw [IntKind.wrap_i64]; omega
          obtain ⟨oa, oc, rfl⟩ := own_slice HOw5.out
          have HO2 := hid (HOw5.out.alloc (.cells #[.int .i64 zk, .int .i64 (L : Int), .int .i64 yo] 44))
          have HB2 := hid (HBw5.out.alloc HBw5.out.size (.cells #[.int .i64 zk, .int .i64 (L : Int), .int .i64 yo] 44))
          have hLn : p + L ≤ Dt.length := by omega
          clear hs1 hs2 ho hbW hK9 hDD
          go_wp2_with (at_builtin; refine Hid.out ?_)
          refine hid ?_
          refine wpList_append1 rfl _ _ 38 rfl 44 _ 3 24 Tryz.underlying38 Tryz.info_seq rfl (by decide) (by decide) _ w7.heap.size _ pre.length _ [.int .i64 zk, .int .i64 (L : Int), .int .i64 yo] rfl ?hu1 rfl rfl (by exact HOw5.out) ?hn1 (by exact HBw5.out.size) ?hk1
          case hu1 => simp [Value.oneCell']
          case hn1 => omega
          case hk1 =>
            intro v' w7 hown' hg7
            have HB7 := hid (HBw5.out.grown hg7 HBw5.out.size (fun kk hk => (HOw5.out.lt kk hk).1))
            have hne1 : ∀ bb, bb < W.heap.size → some bb ≠ (Value.slice oa pre.length oc).ownBlock → w7.heap[bb]? = W.heap[bb]? := fun bb h1 h2 => hg7.block bb h1 h2
            have HS7 := hid (show Blk w7 wr.heap.size [.int .i64 yl, .int .i64 (L : Int), .int .i64 yo] 44 from (hne1 _ HS1.out.lt (fun e => by have := HOlt.out _ e.symm; omega)).trans HS1.out)
            have HI7 := hid (HIw.out.grown hg7 (own_neT HOw5.out HIw.out (by decide)))
            have HD7 := hid (show DfOk (w.heap.size + 3) (DD :: ds) w7 from ⟨HDn.out.1, fun D' h' => ⟨(HDn.out.2 D' h').1, by
              have h3 := (HDn.out.2 D' h').2
              refine (hne1 D' (Array.getElem?_eq_some_iff.1 h3).1 (fun e => ?_)).trans h3
              exact own_neD HOw5.out h3 e⟩⟩)
            have HO7 := hid hown'
            have s1 := HS7.out.cell (k := 1) rfl
            have hIc := HI7.out.cell (k := 0) rfl
            have hwp : IntKind.i64.wrap ((p : Int) + (L : Int)) = (p : Int) + (L : Int) := by rw [IntKind.wrap_i64]; omega
            clear hown' hg7 hne1 s0 s2 s3 x1
            go_wp2_with fail
            go_quiet (fail)
            have hbd : Below w7.heap.size w7 (w7.drewN nq) := below_drewN (Below.refl _ _) nq
            have hIc : (w7.drewN nq).cell? ⟨I, 0, none⟩ = some (.int .i64 (i : Int)) := hIc
            have HBd := hid hbd
            clear hbd
            generalize w7.drewN nq = w8 at *
            go_wp2
            have hbd := HBd.out
            refine Handed.intro (Dt.length - (p + L)) (by have := HG1.out; omega) (hJ _ _ _ ?_)
            have hbn := hbd.alloc hbd.size (.cells #[.int .i64 ((i : Int) + 1)] 3)
            refine ⟨DD :: ds, p + L, 0, i + 1, w8.heap.size, 0, (p : Int) + (L : Int), pre ++ [⟨zk, (L : Int), yo⟩], v', ?_, rfl, hLn, rfl, by omega, hid ⟨?_, ?_, by rw [List.length_append]; simp only [List.length_cons, List.length_nil]; omega, by omega⟩, hid ?_, hid ?_, hid (HD7.out.low hbn), hid (HB7.out.trans (hbn.mono HB7.out.size))⟩
            · exact frame_ex (by kernel_rfl) rfl
            · have h1 := HPa.out.2.1
              have hzk := HZk.out
              have hy := HYc.out
              refine isPath_snoc pre 0 _ ⟨yl, (L : Int), yo⟩ HPa.out.1 (by dsimp only; omega) (by dsimp only; omega) ?_ rfl rfl
              dsimp only
              rw [show lend 0 pre + zk = (p : Int) from by omega]
              exact hy
            · have h1 := HPa.out.2.1
              have hzk := HZk.out
              rw [lend_snoc]
              dsimp only
              omega
            · rw [List.length_append, List.flatMap_append]
              exact own_low HO7.out hbn
            · exact Blk.new w8 [.int .i64 ((i : Int) + 1)] 3
    · obtain rfl : p = Dt.length := by omega
      obtain ⟨al, cl, rfl, hlc, hcl, _⟩ := own_open HOw.out
      have HPd := hid (show PdAt wr al cl pre a2 c2 Dt from ⟨by have := HPa.out.2.2.1; omega, hlc, hcl, ⟨by omega, Nat.le_trans HHr.out.s.hm (by decide)⟩, HHr.out.s.h2, HHr.out.s.h4, HHr.out.s.hc2, by omega⟩)
      have hpl := prplan_any wr M C HHr.out.e.pr al cl pre a2 c2 Dt HPd.out (fun s hs => by
        have := isPath_mem HHr.out.e.ch pre 0 (by rw [HN.out]; exact HPa.out.1) s hs
        have := HHr.out.e.hn
        omega)
      obtain ⟨cst, hc1, hc2, hc3⟩ := path_least C Dt (chF bs H.length Wd D) HHr.out.e.pr.ok (by have := HHr.out.e.ch; rwa [HDr.out] at this) (by omega) pre 0 (Nat.zero_le _) HPa.out.1
      rw [List.drop_zero] at hc1 hc2
      unfold planV at hpl
      rw [if_pos hc1, hc2] at hpl
      have HPl := hid (show Calls Tryz.prog 23 #[.pointer (some ⟨M, 0, none⟩), .slice a2 Dt.length c2, .slice al pre.length cl] wr (RetV wr (.tuple #[.int .i64 cst, .int .i64 0])) from hpl)
      have hcl0 : ¬ cst < L0 := by
        have := HL0.out
        rw [costF_least, HDr.out] at this
        omega
      have x1 := HHr.out.x.cell (k := 1) rfl
      have b1 := HHr.out.v.cell (k := 1) rfl
      have hpI : ¬ (Dt.length : Int) < (Dt.length : Int) := by omega
      clear hpl hc1 hc2 hc3 hlc hcl hpn
      go_wp2_with fail
      refine HPl.out.mono ?_
      rintro e w27 ⟨rfl, hb27⟩
      clear x1 b1
      have HH27 := hid (HHr.out.low hb27)
      have HDf27 := hid (HDf.out.low hb27)
      have HT27 := hid (HTr.out.below hb27 HTr.out.lt)
      clear hb27 HPl HPd
      have hTc := HT27.out.cell (k := 0) rfl
      go_wp2_with (go_at_call 17; refine (num33_any _ _).mono ?_; rintro e w' ⟨rfl, rfl⟩)
      clear hTc hcl0
      have HT28 := hid (Blk.new w27 [.int .i64 1] 3)
      have hb28 := below_new w27 (.cells #[.int .i64 1] 3)
      have HH28 := hid (HH27.out.low hb28)
      have HDf28 := hid (HDf27.out.low hb28)
      clear hb28 HH27 HDf27 HT27
      generalize w27.heap.size = T27 at *
      generalize w27.alloc (.cells #[.int .i64 1] 3) = w28 at *
      rw [rounds_succ]
      have ht0 := HT28.out.cell (k := 0) rfl
      have x1 := HH28.out.x.cell (k := 1) rfl
      go_wp2_with fail
      clear ht0 x1
      have HI2 := hid (Blk.new w28 [.int .i64 0] 3)
      have HBi2 := hid (below_new w28 (.cells #[.int .i64 0] 3))
      have HDi2 := hid (HDf28.out.low HBi2.out)
      have hTl2 := HT28.out.lt
      have HTl2 := hid hTl2
      clear hTl2
      obtain ⟨I0, hI0⟩ : ∃ I0, w28.heap.size = I0 := ⟨_, rfl⟩
      rw [hI0] at HI2 ⊢
      have HIe2 := hid hI0
      clear hI0
      generalize w28.alloc (.cells #[.int .i64 0] 3) = wi2 at *
      refine wp_loop_ghost_k (fun (gk : Nat) (a : Act) (wr : World) => ∃ (ds : List Nat) (p q i I : Nat) (zk zp : Int) (pre : List Sq) (v : Value), (∃ z : Nat → Value, a = { tmps := #[z 0, z 1, .pointer (some ⟨w.heap.size, 0, none⟩), .pointer (some ⟨w.heap.size + 1, 0, none⟩), .pointer (some ⟨w.heap.size + 2, 0, none⟩), .pointer (some ⟨Q, 0, none⟩), z 6, z 7, z 8, .int .i64 L0, z 10, z 11, z 12, .pointer (some ⟨T27, 0, none⟩), v, .int .i64 zk, .int .i64 zp, .pointer (some ⟨I, 0, none⟩), z 18, z 19, z 20, z 21, z 22, z 23, z 24, z 25, z 26, z 27, z 28, z 29, z 30, z 31, z 32, z 33, z 34, z 35, z 36, z 37, z 38, z 39, z 40, z 41, z 42, z 43, z 44, z 45, z 46, z 47, z 48, z 49, z 50, z 51, z 52, z 53, z 54, z 55, z 56, z 57, z 58, z 59, z 60, z 61, z 62, z 63, z 64, z 65, z 66, z 67, z 68, z 69, z 70, z 71, z 72, z 73, z 74, z 75, z 76, z 77, z 78, z 79, z 80, z 81, z 82, z 83, z 84, z 85, z 86, z 87, z 88, z 89, z 90, z 91, z 92, z 93, z 94, z 95, z 96, z 97, z 98, z 99, z 100, z 101, z 102, z 103, z 104, z 105, z 106, z 107, z 108, z 109, z 110, z 111, z 112, z 113, z 114, z 115, z 116, z 117, z 118, z 119, z 120, z 121, z 122, z 123, z 124, z 125, z 126, z 127, z 128, z 129, z 130, z 131, z 132, z 133, z 134, z 135, z 136, z 137, z 138, z 139, z 140, z 141, z 142, z 143, z 144, z 145, z 146, z 147, z 148, z 149, z 150, z 151, z 152, z 153, z 154, z 155, z 156, z 157, z 158, z 159, z 160, z 161, z 162, z 163, z 164, z 165, z 166, z 167, z 168, z 169, z 170, z 171, z 172, z 173, z 174, z 175, z 176, z 177, z 178, z 179, z 180, z 181, z 182, z 183, z 184, z 185, z 186, z 187, z 188, z 189, z 190, z 191, z 192, z 193, z 194, z 195, z 196, z 197, z 198, z 199, z 200, z 201, z 202, z 203, z 204, z 205, z 206, z 207, z 208, z 209, z 210, z 211, z 212, z 213, z 214, z 215, z 216, z 217, z 218, z 219, z 220, z 221, z 222, z 223, z 224, z 225, z 226, z 227, z 228, z 229, z 230, z 231, z 232], defers := dfs ds }) ∧ gk = Dt.length - p ∧ p ≤ Dt.length ∧ zk = (q : Int) ∧ zp = (p : Int) ∧ Hid (isPath (chF bs H.length Wd D) (Dt.length : Nat) 0 pre = true ∧ lend 0 pre + (q : Int) = (p : Int) ∧ pre.length ≤ p ∧ i ≤ p) ∧
        Hid (wr.ownsRow w28.heap.size 44 3 v pre.length (pre.flatMap sqc)) ∧ Hid (Blk wr I [.int .i64 (i : Int)] 3) ∧ Hid (DfOk (w.heap.size + 3) ds wr) ∧ Hid (Below w28.heap.size w28 wr)) Dt.length ?st2 ?rd2
      case st2 =>
        refine ⟨ds, 0, 0, 0, I0, 0, 0, [], .slice none 0 0, ?_, rfl, Nat.zero_le _, rfl, rfl, hid ⟨rfl, rfl, Nat.le_refl _, Nat.le_refl _⟩, hid (World.ownsRow_nil _ _ _ _), hid HI2.out, hid HDi2.out, hid HBi2.out⟩
        exact frame_ex (by kernel_rfl) rfl
      case rd2 =>
        rintro gk a' wr ⟨ds, p, q, i, I, zk, zp, pre, v, ⟨z, rfl⟩, hgk, hp, hzk, rfl, HPa, HOw, HIb, HDf, HBw⟩ J K hJ hK
        have HG2 := hid hgk
        have HZk := hid hzk
        clear hgk hzk
        have HHr := hid (HH28.out.low HBw.out)
        have HTr := hid (HT28.out.below HBw.out HT28.out.lt)
        by_cases hpn : p < Dt.length
        · have hpI : (p : Int) < (Dt.length : Int) := by omega
          have x1 := HHr.out.x.cell (k := 1) rfl
          have b0 := HHr.out.v.cell (k := 0) rfl
          have hbz : Below wr.heap.size wr ((wr.alloc (.cells #[.int .i64 0, .int .i64 0, .int .i64 0] 44)).alloc (.cells #[.bool false] 4)) := (below_new wr _).alloc (by simp) _
          have HSa := hid (show Blk ((wr.alloc (.cells #[.int .i64 0, .int .i64 0, .int .i64 0] 44)).alloc (.cells #[.bool false] 4)) wr.heap.size [.int .i64 0, .int .i64 0, .int .i64 0] 44 from (Blk.newAt rfl).alloc _)
          have HSb := hid (show Blk ((wr.alloc (.cells #[.int .i64 0, .int .i64 0, .int .i64 0] 44)).alloc (.cells #[.bool false] 4)) (wr.heap.size + 1) [.bool false] 4 from Blk.newAt (by simp))
          have HSz := hid (show ((wr.alloc (.cells #[.int .i64 0, .int .i64 0, .int .i64 0] 44)).alloc (.cells #[.bool false] 4)).heap.size = wr.heap.size + 2 from by simp)
          have HBz := hid hbz
          clear hbz
          have x1z := HBz.out.cell (p := ⟨w.heap.size, 1, none⟩) HHr.out.x.lt
          have b0z := (HHr.out.v.below HBz.out HHr.out.v.lt).cell (k := 0) rfl
          go_wp2_with fail
          clear x1 b0 x1z b0z
          generalize ((wr.alloc (.cells #[.int .i64 0, .int .i64 0, .int .i64 0] 44)).alloc (.cells #[.bool false] 4)) = wz at *
          refine (bcand_any bs H.length Wd D F (p : Int) wz (HHr.out.e.fd.low HBz.out)).mono ?_
          rintro e w5 ⟨g, a5, rfl, hg5, hgb, hgc, hb5, hax⟩
          have HSa5 := hid (HSa.out.below hb5 HSa.out.lt)
          have HSb5 := hid (HSb.out.below hb5 HSb.out.lt)
          have HB5 := hid (HBz.out.trans (hb5.mono HBz.out.size))
          have HSz5 := hid (show wr.heap.size + 2 ≤ w5.heap.size from by have := hb5.size; have := HSz.out; omega)
          have HGb := hid (show wr.heap.size + 2 ≤ g from by have := HSz.out; omega)
          have HGc := hid hgb
          have HRow := hid (fun j u (hu : ((bSteps (allS bs H.length Wd D (p : Int))).flatMap sqc)[j]? = some u) => show ∃ b off, a5 = some ⟨b, off, none⟩ ∧ (wr.heap.size + 2 ≤ b ∧ b < w5.heap.size) ∧ w5.cell? ⟨b, off + j, none⟩ = some u from by
            obtain ⟨b, off, e, hb, hc⟩ := hgc j u hu
            subst e
            exact ⟨b, off, rfl, ⟨by have := hax _ rfl; have := HSz.out; dsimp only at *; omega, hb⟩, hc⟩)
          have hml := bSteps_length (allS bs H.length Wd D (p : Int))
          have HCh := hid (show ∀ y ∈ bSteps (allS bs H.length Wd D (p : Int)), y ∈ chF bs H.length Wd D (p : Int) from fun y hy => hy)
          have hfn := fun W => fn_nilB 36 #[.pointer (some ⟨g, 0, none⟩)] W
          clear hg5 hgb hgc hb5 hax HSa HSb HBz HSz
          generalize bSteps (allS bs H.length Wd D (p : Int)) = ml at *
          go_wp2_with fail
          clear hfn
          refine (wpIn_wide (n := 1)).1 ?_
          have hsz5 := HSz5.out
          have hgb5 := HGb.out
          apply wpIn_rangeStBx (gf := 36) (lb := #[.pointer (some ⟨g, 0, none⟩)]) rfl (enters_of Tryz.func36 (by kernel_rfl) rfl) (encs := encsP)
            (bcand1_seq (fun k => wr.heap.size + 2 ≤ k ∧ k < w5.heap.size) (fun _ => false) g a5 ml.length ml w5 (by omega) ⟨hgb5, HGc.out.lt⟩ (HGc.out.cell (k := 0) rfl) HRow.out) (fun _ => rfl)
            (fun xs W => PickI wr 44 4 (xs.map (·.2)) W) (fun _ _ _ => False) (PickI.stays wr 44 4 (by omega)) (fun _ _ _ _ _ hf _ _ => hf)
            ⟨none, (fun s e => by cases e), HSa5.out, HSb5.out, HB5.out⟩
            4 (fun _ W => PickI wr 44 4 ml W) (fun xs W hS hI => by subst hS; rw [enumQ_snd] at hI; exact hI) (fun _ _ _ _ hf => hf.elim) (fun _ _ hq => hq) (fun x => sqc x.2) 44
            (Rx := fun _ _ => True) (hRs := fun q _ W W' row hr hg hro => trivial) (hR := fun pre x W hI => trivial)
          case hassign =>
            intro l' pre x W K hI hSp hK
            unfold encsP sqv
            obtain ⟨q, hq⟩ : ∃ q, q = W.heap.size := ⟨_, rfl⟩
            have HK := hid (hK q hq)
            have HQ := hid hq
            clear hK hI hSp hq
            gi_wp2
            rw [← HQ.out]
            exact HK.out
          case hbody =>
            rintro l' pr ⟨x1, ⟨xl, xn, xo⟩⟩ qq W ⟨o, ho, hs1, hs2, hbW⟩ hq hRt hSp
            obtain ⟨hn1, hx1⟩ := enumQ_next hSp
            dsimp only at hx1
            subst hx1
            have q0 := hq.cell (k := 0) rfl
            have q1 := hq.cell (k := 1) rfl
            have q2 := hq.cell (k := 2) rfl
            dsimp only [sqc] at q0 q1 q2
            have s0 := hs1.cell (k := 0) rfl
            have s1 := hs1.cell (k := 1) rfl
            have s2 := hs1.cell (k := 2) rfl
            have sz0 := hs1.frozen 0
            have sz1 := hs1.frozen 1
            have sz2 := hs1.frozen 2
            have s3 := hs2.cell (k := 0) rfl
            have sz3 := hs2.frozen 0
            have hTc := (HTr.out.below hbW HTr.out.lt).cell (k := 0) rfl
            have hIc := (HIb.out.below hbW HIb.out.lt).cell (k := 0) rfl
            have hCc := (HHr.out.c.below hbW HHr.out.c.lt).cell (k := 0) rfl
            have hprl : pr.length < ml.length := (List.getElem?_eq_some_iff.1 hn1).1
            have HSt := hid (show KeepsT (fun k => wr.heap.size + 2 ≤ k ∧ k < w5.heap.size) w5.heap.size (fun _ => false) W ((((W.setCell ⟨wr.heap.size, 0, none⟩ (.int .i64 xl)).setCell ⟨wr.heap.size, 1, none⟩ (.int .i64 xn)).setCell ⟨wr.heap.size, 2, none⟩ (.int .i64 xo)).setCell ⟨wr.heap.size + 1, 0, none⟩ (.bool true)) ∧ PickI wr 44 4 ((pr ++ [((pr.length : Int), (⟨xl, xn, xo⟩ : Sq))]).map (·.2)) ((((W.setCell ⟨wr.heap.size, 0, none⟩ (.int .i64 xl)).setCell ⟨wr.heap.size, 1, none⟩ (.int .i64 xn)).setCell ⟨wr.heap.size, 2, none⟩ (.int .i64 xo)).setCell ⟨wr.heap.size + 1, 0, none⟩ (.bool true)) from by
              refine ⟨(((KeepsT.set _ ⟨wr.heap.size, 0, none⟩ _ (by dsimp only; omega) (by dsimp only; omega)).trans (KeepsT.set _ ⟨wr.heap.size, 1, none⟩ _ (by dsimp only; omega) (by dsimp only; omega))).trans (KeepsT.set _ ⟨wr.heap.size, 2, none⟩ _ (by dsimp only; omega) (by dsimp only; omega))).trans (KeepsT.set _ ⟨wr.heap.size + 1, 0, none⟩ _ (by dsimp only; omega) (by dsimp only; omega)), ⟨some ⟨xl, xn, xo⟩, (fun s e => by cases e; simp), ?_, ?_, ?_⟩⟩
              · exact (((hs1.set 0 (.int .i64 xl)).set 1 (.int .i64 xn)).set 2 (.int .i64 xo)).other (a := ⟨wr.heap.size + 1, 0, none⟩) (.bool true) (by dsimp only; omega)
              · exact (((hs2.other (a := ⟨wr.heap.size, 0, none⟩) (.int .i64 xl) (by dsimp only; omega)).other (a := ⟨wr.heap.size, 1, none⟩) (.int .i64 xn) (by dsimp only; omega)).other (a := ⟨wr.heap.size, 2, none⟩) (.int .i64 xo) (by dsimp only; omega)).set 0 (.bool true)
              · exact (((hbW.setCell (p := ⟨wr.heap.size, 0, none⟩) (Nat.le_refl _) _).setCell (p := ⟨wr.heap.size, 1, none⟩) (Nat.le_refl _) _).setCell (p := ⟨wr.heap.size, 2, none⟩) (Nat.le_refl _) _).setCell (p := ⟨wr.heap.size + 1, 0, none⟩) (Nat.le_succ _) _)
            clear hs1 hs2 hq hSp hn1 ho hbW hRt hIc hCc
            gi_wp2
            exact HSt.out
          case hrest =>
            rintro DD xs W hDD ⟨o, ho, hs1, hs2, hbW⟩ hK9
            have HDn := hid (HDf.out.cons hbW (by omega) (by have := HHr.out.r.lt; omega) hK9)
            have HIw := hid (HIb.out.below hbW HIb.out.lt)
            have HHw := hid (HHr.out.low hbW)
            have HOw5 := hid (own_low HOw.out hbW)
            have HBw5 := hid (HBw.out.trans (hbW.mono HBw.out.size))
            have hprelen := HPa.out.2.2.1
            have hile := HPa.out.2.2.2
            have hwi1 : IntKind.i64.wrap ((i : Int) + 1) = (i : Int) + 1 := by rw [IntKind.wrap_i64]; omega
            have HS2 := hid hs2
            have HS1 := hid hs1
            have HOlt := hid (fun kk (hk : v.ownBlock = some kk) => (HOw.out.lt kk hk).2)
            have s3 := hs2.cell (k := 0) rfl
            cases o with
            | none =>
              have hIc := HIw.out.cell (k := 0) rfl
              have hzk := HZk.out
              have hq100 : q ≤ p := by
                have h1 := HPa.out.2.1
                have : 0 ≤ lend 0 pre := isPath_end HHr.out.e.ch pre 0 (by rw [HN.out]; exact HPa.out.1)
                omega
              have hwk : IntKind.i64.wrap (zk + 1) = zk + 1 := by rw [IntKind.wrap_i64]; omega
              have hwp : IntKind.i64.wrap ((p : Int) + 1) = (p : Int) + 1 := by rw [IntKind.wrap_i64]; omega
              clear hs1 hs2 ho hbW hK9 hDD hzk
              go_wp2
              refine Handed.intro (Dt.length - (p + 1)) (by have := HG2.out; omega) (hJ _ _ _ ?_)
              have hbn := below_new W (.cells #[.int .i64 ((i : Int) + 1)] 3)
              refine ⟨DD :: ds, p + 1, q + 1, i + 1, W.heap.size, zk + 1, (p : Int) + 1, pre, v, ?_, rfl, hpn, by have := HZk.out; omega, by omega, hid ⟨HPa.out.1, by have := HPa.out.2.1; omega, by omega, by omega⟩, hid (own_low HOw5.out hbn), hid ?_, hid (HDn.out.low hbn), hid (HBw5.out.trans (hbn.mono HBw5.out.size))⟩
              · exact frame_ex (by kernel_rfl) rfl
              · exact Blk.new W [.int .i64 ((i : Int) + 1)] 3
            | some y =>
              obtain ⟨_, hy0, hy1, hy2, hy3, hy4⟩ := HHw.out.e.ch.inn (p : Int) y (HCh.out y (ho y rfl))
              rw [HN.out] at hy2
              have HYc := hid (HCh.out y (ho y rfl))
              obtain ⟨yl, yn, yo⟩ := y
              dsimp only at hy0 hy1 hy2 hy3 hy4
              obtain ⟨L, hL⟩ : ∃ L : Nat, yn = (L : Int) := ⟨yn.toNat, by omega⟩
              subst hL
              have s0 := hs1.cell (k := 0) rfl
              have s1 := hs1.cell (k := 1) rfl
              have s2 := hs1.cell (k := 2) rfl
              dsimp only [Option.getD_some, sqc] at s0 s1 s2
              have x1 := HHw.out.x.cell (k := 1) rfl
              have l1 : ¬ (L : Int) < 3 := by omega
              have l2 : ¬ (Dt.length : Int) - (p : Int) < (L : Int) := by omega
              have hwl : IntKind.i64.wrap ((Dt.length : Int) - (p : Int)) = (Dt.length : Int) - (p : Int) := by rw [IntKind.wrap_i64]; omega
              obtain ⟨oa, oc, rfl⟩ := own_slice HOw5.out
              have HO2 := hid (HOw5.out.alloc (.cells #[.int .i64 zk, .int .i64 (L : Int), .int .i64 yo] 44))
              have HB2 := hid (HBw5.out.alloc HBw5.out.size (.cells #[.int .i64 zk, .int .i64 (L : Int), .int .i64 yo] 44))
              have hLn : p + L ≤ Dt.length := by omega
              clear hs1 hs2 ho hbW hK9 hDD
              go_wp2_with (at_builtin; refine Hid.out ?_)
              refine hid ?_
              refine wpList_append1 rfl _ _ 38 rfl 44 _ 3 24 Tryz.underlying38 Tryz.info_seq rfl (by decide) (by decide) _ w28.heap.size _ pre.length _ [.int .i64 zk, .int .i64 (L : Int), .int .i64 yo] rfl ?hu2 rfl rfl (by exact HOw5.out) ?hn2 (by exact HBw5.out.size) ?hk2
              case hu2 => simp [Value.oneCell']
              case hn2 => omega
              case hk2 =>
                intro v' w7 hown' hg7
                have HB7 := hid (HBw5.out.grown hg7 HBw5.out.size (fun kk hk => (HOw5.out.lt kk hk).1))
                have hne1 : ∀ bb, bb < W.heap.size → some bb ≠ (Value.slice oa pre.length oc).ownBlock → w7.heap[bb]? = W.heap[bb]? := fun bb h1 h2 => hg7.block bb h1 h2
                have HS7 := hid (show Blk w7 wr.heap.size [.int .i64 yl, .int .i64 (L : Int), .int .i64 yo] 44 from (hne1 _ HS1.out.lt (fun e => by have := HOlt.out _ e.symm; omega)).trans HS1.out)
                have HI7 := hid (HIw.out.grown hg7 (own_neT HOw5.out HIw.out (by decide)))
                have HD7 := hid (show DfOk (w.heap.size + 3) (DD :: ds) w7 from ⟨HDn.out.1, fun D' h' => ⟨(HDn.out.2 D' h').1, by
                  have h3 := (HDn.out.2 D' h').2
                  refine (hne1 D' (Array.getElem?_eq_some_iff.1 h3).1 (fun e => ?_)).trans h3
                  exact own_neD HOw5.out h3 e⟩⟩)
                have HO7 := hid hown'
                have s1 := HS7.out.cell (k := 1) rfl
                have hIc := HI7.out.cell (k := 0) rfl
                have hwp : IntKind.i64.wrap ((p : Int) + (L : Int)) = (p : Int) + (L : Int) := by rw [IntKind.wrap_i64]; omega
                clear hown' hg7 hne1 s0 s2 s3 x1
                go_wp2_with fail
                go_quiet (fail)
                have hbd : Below w7.heap.size w7 (w7.drewN nq) := below_drewN (Below.refl _ _) nq
                have hIc : (w7.drewN nq).cell? ⟨I, 0, none⟩ = some (.int .i64 (i : Int)) := hIc
                have HBd := hid hbd
                clear hbd
                generalize w7.drewN nq = w8 at *
                go_wp2
                have hbd := HBd.out
                refine Handed.intro (Dt.length - (p + L)) (by have := HG2.out; omega) (hJ _ _ _ ?_)
                have hbn := hbd.alloc hbd.size (.cells #[.int .i64 ((i : Int) + 1)] 3)
                refine ⟨DD :: ds, p + L, 0, i + 1, w8.heap.size, 0, (p : Int) + (L : Int), pre ++ [⟨zk, (L : Int), yo⟩], v', ?_, rfl, hLn, rfl, by omega, hid ⟨?_, ?_, by rw [List.length_append]; simp only [List.length_cons, List.length_nil]; omega, by omega⟩, hid ?_, hid ?_, hid (HD7.out.low hbn), hid (HB7.out.trans (hbn.mono HB7.out.size))⟩
                · exact frame_ex (by kernel_rfl) rfl
                · have h1 := HPa.out.2.1
                  have hzk := HZk.out
                  have hy := HYc.out
                  refine isPath_snoc pre 0 _ ⟨yl, (L : Int), yo⟩ HPa.out.1 (by dsimp only; omega) (by dsimp only; omega) ?_ rfl rfl
                  dsimp only
                  rw [show lend 0 pre + zk = (p : Int) from by omega]
                  exact hy
                · have h1 := HPa.out.2.1
                  have hzk := HZk.out
                  rw [lend_snoc]
                  dsimp only
                  omega
                · rw [List.length_append, List.flatMap_append]
                  exact own_low HO7.out hbn
                · exact Blk.new w8 [.int .i64 ((i : Int) + 1)] 3
        · obtain rfl : p = Dt.length := by omega
          obtain ⟨al, cl, rfl, hlc, hcl, _⟩ := own_open HOw.out
          have HPd := hid (show PdAt wr al cl pre a2 c2 Dt from ⟨by have := HPa.out.2.2.1; omega, hlc, hcl, ⟨by omega, Nat.le_trans HHr.out.s.hm (by decide)⟩, HHr.out.s.h2, HHr.out.s.h4, HHr.out.s.hc2, by omega⟩)
          have hpl := prplan_any wr M C HHr.out.e.pr al cl pre a2 c2 Dt HPd.out (fun s hs => by
            have := isPath_mem HHr.out.e.ch pre 0 (by rw [HN.out]; exact HPa.out.1) s hs
            have := HHr.out.e.hn
            omega)
          obtain ⟨cst, hc1, hc2, hc3⟩ := path_least C Dt (chF bs H.length Wd D) HHr.out.e.pr.ok (by have := HHr.out.e.ch; rwa [HDr.out] at this) (by omega) pre 0 (Nat.zero_le _) HPa.out.1
          rw [List.drop_zero] at hc1 hc2
          unfold planV at hpl
          rw [if_pos hc1, hc2] at hpl
          have HPl := hid (show Calls Tryz.prog 23 #[.pointer (some ⟨M, 0, none⟩), .slice a2 Dt.length c2, .slice al pre.length cl] wr (RetV wr (.tuple #[.int .i64 cst, .int .i64 0])) from hpl)
          have hcl0 : ¬ cst < L0 := by
            have := HL0.out
            rw [costF_least, HDr.out] at this
            omega
          have x1 := HHr.out.x.cell (k := 1) rfl
          have b1 := HHr.out.v.cell (k := 1) rfl
          have hpI : ¬ (Dt.length : Int) < (Dt.length : Int) := by omega
          clear hpl hc1 hc2 hc3 hlc hcl hpn
          go_wp2_with fail
          refine HPl.out.mono ?_
          rintro e w48 ⟨rfl, hb48⟩
          clear x1 b1
          have HH48 := hid (HHr.out.low hb48)
          have HDf48 := hid (HDf.out.low hb48)
          have HT48 := hid (HTr.out.below hb48 HTr.out.lt)
          clear hb48 HPl HPd
          have hTc := HT48.out.cell (k := 0) rfl
          go_wp2_with (go_at_call 17; refine (num33_any _ _).mono ?_; rintro e w' ⟨rfl, rfl⟩)
          clear hTc hcl0
          have HT49 := hid (Blk.new w48 [.int .i64 2] 3)
          have hb49 := below_new w48 (.cells #[.int .i64 2] 3)
          have HH49 := hid (HH48.out.low hb49)
          have HDf49 := hid (HDf48.out.low hb49)
          clear hb49 HH48 HDf48 HT48
          generalize w48.heap.size = T48 at *
          generalize w48.alloc (.cells #[.int .i64 2] 3) = w49 at *
          rw [rounds_succ]
          have hTc := HT49.out.cell (k := 0) rfl
          have hbn49 := below_new w49 (.cells #[.int .i64 (-1)] 3)
          have HLb := hid (Blk.new w49 [.int .i64 (-1)] 3)
          have HBq := hid hbn49
          have HHa := hid (HH49.out.low hbn49)
          clear hbn49
          have b0 := HHa.out.v.cell (k := 0) rfl
          have b1 := HHa.out.v.cell (k := 1) rfl
          obtain ⟨LA, hLA⟩ : ∃ LA, w49.heap.size = LA := ⟨_, rfl⟩
          rw [hLA] at HLb
          have HLA := hid hLA
          go_wp2_with fail
          clear hTc b0 b1 hLA
          generalize w49.alloc (.cells #[.int .i64 (-1)] 3) = wa at *
          refine (bcosts_ok bs H.length Wd D F M C wa HHa.out.e.fd HHa.out.e.pr HHa.out.e.ch).mono ?_
          rintro e wb ⟨qe, qt, Tb, gc, gf, rfl, hbb, h1, h2, h3, h4, he, ht, hR⟩
          have HLc := hid (show LastI w49 3 LA (costsL (tabF C bs H.length Wd D)) 0 wb from ⟨HLb.out.below hbb HLb.out.lt, HBq.out.trans (hbb.mono HBq.out.size)⟩)
          have hLa := HLb.out.lt
          have HE := hid (And.intro he (And.intro ht hR))
          have HEq := hid (show (LA + 1 ≤ qe ∧ LA + 1 ≤ qt ∧ LA + 1 ≤ Tb ∧ LA + 1 ≤ gc) ∧ LA + 1 ≤ wb.heap.size from by have := hbb.size; omega)
          have hcl : (costsL (tabF C bs H.length Wd D)).length = Dt.length + 1 := by rw [costsL_length, tabF_length, HN.out]
          have HCl := hid hcl
          have hfn := fun W => fn_nilK 43 #[.pointer (some ⟨qe, 0, none⟩), .pointer (some ⟨qt, 0, none⟩)] W
          clear hbb he ht hR HHa HLb HBq h1 h2 h3 h4 hLa hcl
          go_wp2_with fail
          clear hfn
          refine (wpIn_wide (n := 1)).1 ?_
          apply wpIn_rangeStA (gf := 43) (lb := #[.pointer (some ⟨qe, 0, none⟩), .pointer (some ⟨qt, 0, none⟩)]) rfl (enters_of Tryz.func43 (by kernel_rfl) rfl) (encs := fun x : Int × Int => #[.int .i64 x.1, .int .i64 x.2])
            (bcosts1_seq (fun k => LA + 1 ≤ k ∧ k < wb.heap.size) (fun _ => false) qe qt Tb gc _ (costsL (tabF C bs H.length Wd D)) wb (by rw [HCl.out]; omega) ⟨HEq.out.1.1, HE.out.1.lt⟩ ⟨HEq.out.1.2.1, HE.out.2.1.lt⟩ ⟨HEq.out.1.2.2.1, HE.out.2.2.row.lt⟩ ⟨HEq.out.1.2.2.2, HE.out.2.2.c.lt⟩ (HE.out.1.cell (k := 0) rfl) (HE.out.2.1.cell (k := 0) rfl)
              (by have h := HE.out.2.2.row.cell (k := 0) rfl; rwa [← costsL_length] at h) (fun j u hu => HE.out.2.2.c.cell hu)) (fun _ => rfl)
            (fun xs W => LastI w49 3 LA (costsL (tabF C bs H.length Wd D)) xs.length W) (fun _ _ _ => False) (LastI.stays w49 3 LA (costsL (tabF C bs H.length Wd D)) (by have := HEq.out.2; omega) (by have := HEq.out.2; have := HLA.out; omega)) (fun _ _ _ _ _ hf _ _ => hf) HLc.out
            6 (fun _ W => LastI w49 3 LA (costsL (tabF C bs H.length Wd D)) (enumI (costsL (tabF C bs H.length Wd D))).length W) (fun xs W hS hI => by subst hS; exact hI) (fun _ _ _ _ hf => hf.elim) (fun _ _ hq => hq)
          case hassign =>
            intro l' x W K hK
            gi_wp2
            exact hK
          case hbody =>
            rintro l' pre ⟨x1, xc⟩ W hI hSp
            obtain ⟨hn0, hn2⟩ := next_of_pre hSp
            obtain ⟨hx1, hn1⟩ := enumI_get hn0
            rw [enumI_length, HCl.out] at hn2
            dsimp only at hn1 hx1
            subst hx1
            have HHw := hid (HH49.out.low hI.low)
            have hxc : xc = costF C bs H.length Wd D pre.length := by
              unfold costF costAt
              rw [List.getD_eq_getElem?_getD, hn1]
              rfl
            have HI := hid hI
            have HXc := hid hxc
            have HPo := hid (show (pre ++ [((pre.length : Int), xc)]).length = pre.length + 1 from by simp)
            have HN1 := hid hn1
            have hlq := HLA.out
            have hlb := HEq.out.2
            have hg1 : ¬ (Dt.length : Int) < (pre.length : Int) := by omega
            have hpost : ∀ W1, Below W.heap.size W W1 → KeepsT (fun k => LA + 1 ≤ k ∧ k < wb.heap.size) wb.heap.size (fun _ => false) W (W1.setCell ⟨LA, 0, none⟩ (.int .i64 xc)) ∧ LastI w49 3 LA (costsL (tabF C bs H.length Wd D)) (pre ++ [((pre.length : Int), xc)]).length (W1.setCell ⟨LA, 0, none⟩ (.int .i64 xc)) := fun W1 hb => by
              refine ⟨(KeepsT.low hb).trans (KeepsT.set _ ⟨LA, 0, none⟩ _ (by dsimp only; omega) (by dsimp only; omega)), ?_⟩
              rw [HPo.out]
              exact HI.out.step hb (by omega) HN1.out
            have HPt := hid hpost
            clear hI hSp hn0 hn1 hxc hpost
            have hb3 := Below.refl W.heap.size W
            by_cases hk0 : pre.length = 0
            · have hK0 : ((pre.length : Nat) : Int) = 0 := by omega
              gi_wp2
              refine wpIn_region_round_held (fun W' => Below W.heap.size W W') (by kernel_rfl) (by kernel_rfl) hb3.drew (fun hHeld => ?_)
              simp only [List.size_toArray, List.length_cons, List.length_nil, Nat.reduceAdd, Array.replicate_succ, Array.replicate_zero, List.push_toArray, List.nil_append, List.cons_append]
              refine wpAnyH_take (i := 0) (v := .int .i64 (pre.length : Int)) (by simp only [List.getElem?_toArray, List.getElem?_cons_zero]; rfl) (by kernel_rfl) (by kernel_rfl) (by kernel_rfl) (fun _ _ _ h => h) (Or.inl ⟨by rfl, fun W hSw => ?_⟩) (by assumption) ?_
              · clear hSw
                go_simp
              simp only [Act.put, List.setIfInBounds_toArray, List.set_cons_zero, List.set_cons_succ]
              refine wpAnyH_take (i := 1) (v := .pointer (some ⟨w.heap.size, 1, none⟩)) (by simp only [List.getElem?_toArray, List.getElem?_cons_zero, List.getElem?_cons_succ]; rfl) (by kernel_rfl) (by kernel_rfl) (by kernel_rfl) (fun _ _ _ h => h) (Or.inl ⟨by rfl, fun W hSw => ?_⟩) (by assumption) ?_
              · clear hSw
                go_simp
              simp only [Act.put, List.setIfInBounds_toArray, List.set_cons_zero, List.set_cons_succ]
              refine wpAnyH_take (i := 2) (v := .slice a2 Dt.length c2) (by simp only [List.getElem?_toArray, List.getElem?_cons_zero, List.getElem?_cons_succ]; rfl) (by kernel_rfl) (by kernel_rfl) (by kernel_rfl) (fun _ _ _ h => h) (Or.inl ⟨by rfl, fun W hSw => ?_⟩) (by assumption) ?_
              · have hcw := (hSw.cell (p := ⟨w.heap.size, 1, none⟩) HHw.out.x.lt).trans (HHw.out.x.cell (k := 1) rfl)
                clear hSw
                go_simp
              simp only [Act.put, List.setIfInBounds_toArray, List.set_cons_zero, List.set_cons_succ]
              refine wpAnyH_take (i := 3) (v := .int .i64 (Dt.length : Int)) (by simp only [List.getElem?_toArray, List.getElem?_cons_zero, List.getElem?_cons_succ]; rfl) (by kernel_rfl) (by kernel_rfl) (by kernel_rfl) (fun _ _ _ h => h) (Or.inl ⟨by rfl, fun W hSw => ?_⟩) (by assumption) ?_
              · clear hSw
                go_simp
              simp only [Act.put, List.setIfInBounds_toArray, List.set_cons_zero, List.set_cons_succ]
              refine wpAnyH_take (i := 4) (v := .bool false) (by simp only [List.getElem?_toArray, List.getElem?_cons_zero, List.getElem?_cons_succ]; rfl) (by kernel_rfl) (by kernel_rfl) (by kernel_rfl) (fun _ _ _ h => h) (Or.inl ⟨by rfl, fun W hSw => ?_⟩) (by assumption) ?_
              · clear hSw
                go_simp
              simp only [Act.put, List.setIfInBounds_toArray, List.set_cons_zero, List.set_cons_succ]
              refine wpAnyH_take (i := 5) (v := .bool false) (by simp only [List.getElem?_toArray, List.getElem?_cons_zero, List.getElem?_cons_succ]; rfl) (by kernel_rfl) (by kernel_rfl) (by kernel_rfl) (fun _ _ _ h => h) (Or.inl ⟨by rfl, fun W hSw => ?_⟩) (by assumption) ?_
              · clear hSw
                go_simp
              simp only [Act.put, List.setIfInBounds_toArray, List.set_cons_zero, List.set_cons_succ]
              refine wpAnyH_take (i := 6) (v := .int .i64 (pre.length : Int)) (by simp only [List.getElem?_toArray, List.getElem?_cons_zero, List.getElem?_cons_succ]; rfl) (by kernel_rfl) (by kernel_rfl) (by kernel_rfl) (fun _ _ _ h => h) (Or.inl ⟨by rfl, fun W hSw => ?_⟩) (by assumption) ?_
              · clear hSw
                go_simp
              simp only [Act.put, List.setIfInBounds_toArray, List.set_cons_zero, List.set_cons_succ]
              refine wpAnyH_take (i := 7) (v := .bool false) (by simp only [List.getElem?_toArray, List.getElem?_cons_zero, List.getElem?_cons_succ]; rfl) (by kernel_rfl) (by kernel_rfl) (by kernel_rfl) (fun _ _ _ h => h) (Or.inl ⟨by rfl, fun W hSw => ?_⟩) (by assumption) ?_
              · clear hSw
                go_simp
              simp only [Act.put, List.setIfInBounds_toArray, List.set_cons_zero, List.set_cons_succ]
              refine wpAnyH_take (i := 8) (v := .bool false) (by simp only [List.getElem?_toArray, List.getElem?_cons_zero, List.getElem?_cons_succ]; rfl) (by kernel_rfl) (by kernel_rfl) (by kernel_rfl) (fun _ _ _ h => h) (Or.inl ⟨by rfl, fun W hSw => ?_⟩) (by assumption) ?_
              · clear hSw
                go_simp
              simp only [Act.put, List.setIfInBounds_toArray, List.set_cons_zero, List.set_cons_succ]
              refine wpAnyH_take (i := 9) (v := undef) (by simp only [List.getElem?_toArray, List.getElem?_cons_zero, List.getElem?_cons_succ]; rfl) (by kernel_rfl) (by kernel_rfl) (by kernel_rfl) (fun _ _ _ h => h) (Or.inr ⟨by rfl, rfl⟩) (by assumption) ?_
              simp only [Act.put, List.setIfInBounds_toArray, List.set_cons_zero, List.set_cons_succ]
              refine wpAnyH_take (i := 10) (v := undef) (by simp only [List.getElem?_toArray, List.getElem?_cons_zero, List.getElem?_cons_succ]; rfl) (by kernel_rfl) (by kernel_rfl) (by kernel_rfl) (fun _ _ _ h => h) (Or.inr ⟨by rfl, rfl⟩) (by assumption) ?_
              simp only [Act.put, List.setIfInBounds_toArray, List.set_cons_zero, List.set_cons_succ]
              refine wpAnyH_take (i := 11) (v := undef) (by simp only [List.getElem?_toArray, List.getElem?_cons_zero, List.getElem?_cons_succ]; rfl) (by kernel_rfl) (by kernel_rfl) (by kernel_rfl) (fun _ _ _ h => h) (Or.inr ⟨by rfl, rfl⟩) (by assumption) ?_
              simp only [Act.put, List.setIfInBounds_toArray, List.set_cons_zero, List.set_cons_succ]
              refine wpAnyH_take (i := 12) (v := undef) (by simp only [List.getElem?_toArray, List.getElem?_cons_zero, List.getElem?_cons_succ]; rfl) (by kernel_rfl) (by kernel_rfl) (by kernel_rfl) (fun _ _ _ h => h) (Or.inr ⟨by rfl, rfl⟩) (by assumption) ?_
              simp only [Act.put, List.setIfInBounds_toArray, List.set_cons_zero, List.set_cons_succ]
              refine wpAnyH_take (i := 13) (v := undef) (by simp only [List.getElem?_toArray, List.getElem?_cons_zero, List.getElem?_cons_succ]; rfl) (by kernel_rfl) (by kernel_rfl) (by kernel_rfl) (fun _ _ _ h => h) (Or.inr ⟨by rfl, rfl⟩) (by assumption) ?_
              simp only [Act.put, List.setIfInBounds_toArray, List.set_cons_zero, List.set_cons_succ]
              refine wpAnyH_take (i := 14) (v := undef) (by simp only [List.getElem?_toArray, List.getElem?_cons_zero, List.getElem?_cons_succ]; rfl) (by kernel_rfl) (by kernel_rfl) (by kernel_rfl) (fun _ _ _ h => h) (Or.inr ⟨by rfl, rfl⟩) (by assumption) ?_
              simp only [Act.put, List.setIfInBounds_toArray, List.set_cons_zero, List.set_cons_succ]
              refine wpAnyH_take (i := 15) (v := undef) (by simp only [List.getElem?_toArray, List.getElem?_cons_zero, List.getElem?_cons_succ]; rfl) (by kernel_rfl) (by kernel_rfl) (by kernel_rfl) (fun _ _ _ h => h) (Or.inr ⟨by rfl, rfl⟩) (by assumption) ?_
              simp only [Act.put, List.setIfInBounds_toArray, List.set_cons_zero, List.set_cons_succ]
              refine wpAnyH_take (i := 16) (v := undef) (by simp only [List.getElem?_toArray, List.getElem?_cons_zero, List.getElem?_cons_succ]; rfl) (by kernel_rfl) (by kernel_rfl) (by kernel_rfl) (fun _ _ _ h => h) (Or.inr ⟨by rfl, rfl⟩) (by assumption) ?_
              simp only [Act.put, List.setIfInBounds_toArray, List.set_cons_zero, List.set_cons_succ]
              refine wpAnyH_take (i := 17) (v := undef) (by simp only [List.getElem?_toArray, List.getElem?_cons_zero, List.getElem?_cons_succ]; rfl) (by kernel_rfl) (by kernel_rfl) (by kernel_rfl) (fun _ _ _ h => h) (Or.inr ⟨by rfl, rfl⟩) (by assumption) ?_
              simp only [Act.put, List.setIfInBounds_toArray, List.set_cons_zero, List.set_cons_succ]
              refine wpAnyH_take (i := 18) (v := undef) (by simp only [List.getElem?_toArray, List.getElem?_cons_zero, List.getElem?_cons_succ]; rfl) (by kernel_rfl) (by kernel_rfl) (by kernel_rfl) (fun _ _ _ h => h) (Or.inr ⟨by rfl, rfl⟩) (by assumption) ?_
              simp only [Act.put, List.setIfInBounds_toArray, List.set_cons_zero, List.set_cons_succ]
              refine wpAnyH_take (i := 19) (v := undef) (by simp only [List.getElem?_toArray, List.getElem?_cons_zero, List.getElem?_cons_succ]; rfl) (by kernel_rfl) (by kernel_rfl) (by kernel_rfl) (fun _ _ _ h => h) (Or.inr ⟨by rfl, rfl⟩) (by assumption) ?_
              simp only [Act.put, List.setIfInBounds_toArray, List.set_cons_zero, List.set_cons_succ]
              refine wpAnyH_take (i := 20) (v := undef) (by simp only [List.getElem?_toArray, List.getElem?_cons_zero, List.getElem?_cons_succ]; rfl) (by kernel_rfl) (by kernel_rfl) (by kernel_rfl) (fun _ _ _ h => h) (Or.inr ⟨by rfl, rfl⟩) (by assumption) ?_
              simp only [Act.put, List.setIfInBounds_toArray, List.set_cons_zero, List.set_cons_succ]
              refine wpAnyH_take (i := 21) (v := undef) (by simp only [List.getElem?_toArray, List.getElem?_cons_zero, List.getElem?_cons_succ]; rfl) (by kernel_rfl) (by kernel_rfl) (by kernel_rfl) (fun _ _ _ h => h) (Or.inr ⟨by rfl, rfl⟩) (by assumption) ?_
              simp only [Act.put, List.setIfInBounds_toArray, List.set_cons_zero, List.set_cons_succ]
              refine wpAnyH_take (i := 22) (v := undef) (by simp only [List.getElem?_toArray, List.getElem?_cons_zero, List.getElem?_cons_succ]; rfl) (by kernel_rfl) (by kernel_rfl) (by kernel_rfl) (fun _ _ _ h => h) (Or.inr ⟨by rfl, rfl⟩) (by assumption) ?_
              simp only [Act.put, List.setIfInBounds_toArray, List.set_cons_zero, List.set_cons_succ]
              refine wpAnyH_take (i := 23) (v := .bool false) (by simp only [List.getElem?_toArray, List.getElem?_cons_zero, List.getElem?_cons_succ]; rfl) (by kernel_rfl) (by kernel_rfl) (by kernel_rfl) (fun _ _ _ h => h) (Or.inl ⟨by rfl, fun W hSw => ?_⟩) (by assumption) ?_
              · clear hSw
                go_simp
              simp only [Act.put, List.setIfInBounds_toArray, List.set_cons_zero, List.set_cons_succ]
              refine wpAnyH_take (i := 24) (v := .bool false) (by simp only [List.getElem?_toArray, List.getElem?_cons_zero, List.getElem?_cons_succ]; rfl) (by kernel_rfl) (by kernel_rfl) (by kernel_rfl) (fun _ _ _ h => h) (Or.inl ⟨by rfl, fun W hSw => ?_⟩) (by assumption) ?_
              · clear hSw
                go_simp
              simp only [Act.put, List.setIfInBounds_toArray, List.set_cons_zero, List.set_cons_succ]
              refine wpAnyH_done (by kernel_rfl) ?_ _
              refine NoOut.normal ?_
              have hcn := (HI.out.l.below hb3.drew HI.out.l.lt).cell (k := 0) rfl
              have hzn := (HI.out.l.below hb3.drew HI.out.l.lt).frozen 0
              have HFi := hid (HPt.out _ hb3.drew)
              clear hHeld hb3
              gi_wp2
              exact HFi.out
            · obtain ⟨k9, hk9⟩ : ∃ k9, pre.length = k9 + 1 := ⟨pre.length - 1, by omega⟩
              obtain ⟨x, hx⟩ : ∃ x, Dt[k9]? = some x := ⟨Dt[k9]'(by omega), by simp⟩
              obtain ⟨bd, od, had, hbd, hcd⟩ := HHw.out.s.hc2 k9 (bv x) (by rw [List.getElem?_map, hx]; rfl)
              have hll := least_lit C Dt (chF bs H.length Wd D) (i := k9) (by omega)
              have hcv : lastV (costsL (tabF C bs H.length Wd D)) pre.length = costF C bs H.length Wd D k9 := by rw [hk9]; rfl
              obtain ⟨X, hX⟩ : ∃ X, litsC C [x] = X := ⟨_, rfl⟩
              obtain ⟨LV, hLV⟩ : ∃ LV, lastV (costsL (tabF C bs H.length Wd D)) pre.length = LV := ⟨_, rfl⟩
              have hbx := lit_bounds C HHw.out.e.pr.ok x
              have hxb : 0 ≤ xc ∧ xc ≤ 1000000000000 := by rw [HXc.out]; exact tabF_bounds HHw.out.e.pr.ok bs H.length Wd D (Nat.le_trans HHw.out.e.hbl (by decide)) pre.length
              rw [hX] at hbx
              have hng : ¬ xc + X < LV := by
                rw [List.getD_eq_getElem?_getD, hx, Option.getD_some, hX] at hll
                have e1 := HXc.out
                rw [costF_least, HDr.out, hk9] at e1
                rw [hLV, costF_least, HDr.out] at hcv
                omega
              have hw1 : IntKind.i64.wrap ((pre.length : Int) - 1) = (k9 : Int) := by rw [IntKind.wrap_i64]; omega
              have hw2 : IntKind.i64.wrap (xc + X) = xc + X := by rw [IntKind.wrap_i64]; omega
              have hkp : 0 < pre.length := by omega
              have hkpI : (0 : Int) < (pre.length : Int) := by omega
              have hk90 : ¬ (k9 : Int) < 0 := by omega
              have hk91 : (k9 : Int) < (Dt.length : Int) := by omega
              have hk92 : k9 < Dt.length := by omega
              unfold bv at hcd
              have HLi := hid (fun W1 (hb : Below W.heap.size W W1) G (hG : Blk W1 G [bv x] 5) => prlits_any W1 M C (HHw.out.e.pr.low hb) (some ⟨G, 0, none⟩) 1 [x] (by simp) (fun j u hu => ⟨G, 0, rfl, hG.lt, by rw [Nat.zero_add]; exact hG.cell hu⟩))
              rw [hX] at HLi
              have hlv := HI.out.l.cell (k := 0) rfl
              rw [hLV] at hlv
              clear hx hll hcv hX hLV hbx hxb hk9
              gi_wp2
              refine wpIn_region_round_held (fun W' => Below W.heap.size W W') (by kernel_rfl) (by kernel_rfl) hb3.drew (fun hHeld => ?_)
              simp only [List.size_toArray, List.length_cons, List.length_nil, Nat.reduceAdd, Array.replicate_succ, Array.replicate_zero, List.push_toArray, List.nil_append, List.cons_append]
              have hbq : Below W.heap.size W W.drew := hb3.drew
              generalize W.drew = wd at *
              subst had
              refine wpAnyH_take (i := 0) (v := .int .i64 (pre.length : Int)) (by simp only [List.getElem?_toArray, List.getElem?_cons_zero]; rfl) (by kernel_rfl) (by kernel_rfl) (by kernel_rfl) (fun _ _ _ h => h) (Or.inl ⟨by rfl, fun W hSw => ?_⟩) (by assumption) ?_
              · clear hSw
                go_simp
              simp only [Act.put, List.setIfInBounds_toArray, List.set_cons_zero, List.set_cons_succ]
              refine wpAnyH_take (i := 1) (v := .pointer (some ⟨w.heap.size, 1, none⟩)) (by simp only [List.getElem?_toArray, List.getElem?_cons_zero, List.getElem?_cons_succ]; rfl) (by kernel_rfl) (by kernel_rfl) (by kernel_rfl) (fun _ _ _ h => h) (Or.inl ⟨by rfl, fun W hSw => ?_⟩) (by assumption) ?_
              · clear hSw
                go_simp
              simp only [Act.put, List.setIfInBounds_toArray, List.set_cons_zero, List.set_cons_succ]
              refine wpAnyH_take (i := 2) (v := .slice (some ⟨bd, od, none⟩) Dt.length c2) (by simp only [List.getElem?_toArray, List.getElem?_cons_zero, List.getElem?_cons_succ]; rfl) (by kernel_rfl) (by kernel_rfl) (by kernel_rfl) (fun _ _ _ h => h) (Or.inl ⟨by rfl, fun W hSw => ?_⟩) (by assumption) ?_
              · have hcw := (hSw.cell (p := ⟨w.heap.size, 1, none⟩) HHw.out.x.lt).trans (HHw.out.x.cell (k := 1) rfl)
                clear hSw
                go_simp
              simp only [Act.put, List.setIfInBounds_toArray, List.set_cons_zero, List.set_cons_succ]
              refine wpAnyH_take (i := 3) (v := .int .i64 (Dt.length : Int)) (by simp only [List.getElem?_toArray, List.getElem?_cons_zero, List.getElem?_cons_succ]; rfl) (by kernel_rfl) (by kernel_rfl) (by kernel_rfl) (fun _ _ _ h => h) (Or.inl ⟨by rfl, fun W hSw => ?_⟩) (by assumption) ?_
              · clear hSw
                go_simp
              simp only [Act.put, List.setIfInBounds_toArray, List.set_cons_zero, List.set_cons_succ]
              refine wpAnyH_take (i := 4) (v := .bool false) (by simp only [List.getElem?_toArray, List.getElem?_cons_zero, List.getElem?_cons_succ]; rfl) (by kernel_rfl) (by kernel_rfl) (by kernel_rfl) (fun _ _ _ h => h) (Or.inl ⟨by rfl, fun W hSw => ?_⟩) (by assumption) ?_
              · clear hSw
                (go_simp; omega)
              simp only [Act.put, List.setIfInBounds_toArray, List.set_cons_zero, List.set_cons_succ]
              refine wpAnyH_take (i := 5) (v := .bool false) (by simp only [List.getElem?_toArray, List.getElem?_cons_zero, List.getElem?_cons_succ]; rfl) (by kernel_rfl) (by kernel_rfl) (by kernel_rfl) (fun _ _ _ h => h) (Or.inl ⟨by rfl, fun W hSw => ?_⟩) (by assumption) ?_
              · clear hSw
                go_simp
              simp only [Act.put, List.setIfInBounds_toArray, List.set_cons_zero, List.set_cons_succ]
              refine wpAnyH_take (i := 6) (v := .int .i64 (pre.length : Int)) (by simp only [List.getElem?_toArray, List.getElem?_cons_zero, List.getElem?_cons_succ]; rfl) (by kernel_rfl) (by kernel_rfl) (by kernel_rfl) (fun _ _ _ h => h) (Or.inl ⟨by rfl, fun W hSw => ?_⟩) (by assumption) ?_
              · clear hSw
                go_simp
              simp only [Act.put, List.setIfInBounds_toArray, List.set_cons_zero, List.set_cons_succ]
              refine wpAnyH_take (i := 7) (v := .bool true) (by simp only [List.getElem?_toArray, List.getElem?_cons_zero, List.getElem?_cons_succ]; rfl) (by kernel_rfl) (by kernel_rfl) (by kernel_rfl) (fun _ _ _ h => h) (Or.inl ⟨by rfl, fun W hSw => ?_⟩) (by assumption) ?_
              · clear hSw
                go_simp
              simp only [Act.put, List.setIfInBounds_toArray, List.set_cons_zero, List.set_cons_succ]
              refine wpAnyH_take (i := 8) (v := .bool true) (by simp only [List.getElem?_toArray, List.getElem?_cons_zero, List.getElem?_cons_succ]; rfl) (by kernel_rfl) (by kernel_rfl) (by kernel_rfl) (fun _ _ _ h => h) (Or.inl ⟨by rfl, fun W hSw => ?_⟩) (by assumption) ?_
              · clear hSw
                go_simp
              simp only [Act.put, List.setIfInBounds_toArray, List.set_cons_zero, List.set_cons_succ]
              refine wpAnyH_take (i := 9) (v := .int .i64 LV) (by simp only [List.getElem?_toArray, List.getElem?_cons_zero, List.getElem?_cons_succ]; rfl) (by kernel_rfl) (by kernel_rfl) (by kernel_rfl) (fun _ _ _ h => h) (Or.inl ⟨by rfl, fun W hSw => ?_⟩) (by assumption) ?_
              · have hcw := (hSw.cell (p := ⟨LA, 0, none⟩) HI.out.l.lt).trans hlv
                clear hSw
                go_simp
              simp only [Act.put, List.setIfInBounds_toArray, List.set_cons_zero, List.set_cons_succ]
              refine wpAnyH_take (i := 10) (v := .int .i64 xc) (by simp only [List.getElem?_toArray, List.getElem?_cons_zero, List.getElem?_cons_succ]; rfl) (by kernel_rfl) (by kernel_rfl) (by kernel_rfl) (fun _ _ _ h => h) (Or.inl ⟨by rfl, fun W hSw => ?_⟩) (by assumption) ?_
              · clear hSw
                go_simp
              simp only [Act.put, List.setIfInBounds_toArray, List.set_cons_zero, List.set_cons_succ]
              refine wpAnyH_take (i := 11) (v := .pointer (some ⟨Q, 1, none⟩)) (by simp only [List.getElem?_toArray, List.getElem?_cons_zero, List.getElem?_cons_succ]; rfl) (by kernel_rfl) (by kernel_rfl) (by kernel_rfl) (fun _ _ _ h => h) (Or.inl ⟨by rfl, fun W hSw => ?_⟩) (by assumption) ?_
              · clear hSw
                go_simp
              simp only [Act.put, List.setIfInBounds_toArray, List.set_cons_zero, List.set_cons_succ]
              refine wpAnyH_take (i := 12) (v := .pointer (some ⟨M, 0, none⟩)) (by simp only [List.getElem?_toArray, List.getElem?_cons_zero, List.getElem?_cons_succ]; rfl) (by kernel_rfl) (by kernel_rfl) (by kernel_rfl) (fun _ _ _ h => h) (Or.inl ⟨by rfl, fun W hSw => ?_⟩) (by assumption) ?_
              · have hcw := (hSw.cell (p := ⟨Q, 1, none⟩) HHw.out.v.lt).trans (HHw.out.v.cell (k := 1) rfl)
                clear hSw
                go_simp
              simp only [Act.put, List.setIfInBounds_toArray, List.set_cons_zero, List.set_cons_succ]
              refine wpAnyH_take (i := 13) (v := .pointer (some ⟨w.heap.size, 1, none⟩)) (by simp only [List.getElem?_toArray, List.getElem?_cons_zero, List.getElem?_cons_succ]; rfl) (by kernel_rfl) (by kernel_rfl) (by kernel_rfl) (fun _ _ _ h => h) (Or.inl ⟨by rfl, fun W hSw => ?_⟩) (by assumption) ?_
              · clear hSw
                go_simp
              simp only [Act.put, List.setIfInBounds_toArray, List.set_cons_zero, List.set_cons_succ]
              refine wpAnyH_take (i := 14) (v := .slice (some ⟨bd, od, none⟩) Dt.length c2) (by simp only [List.getElem?_toArray, List.getElem?_cons_zero, List.getElem?_cons_succ]; rfl) (by kernel_rfl) (by kernel_rfl) (by kernel_rfl) (fun _ _ _ h => h) (Or.inl ⟨by rfl, fun W hSw => ?_⟩) (by assumption) ?_
              · have hcw := (hSw.cell (p := ⟨w.heap.size, 1, none⟩) HHw.out.x.lt).trans (HHw.out.x.cell (k := 1) rfl)
                clear hSw
                go_simp
              simp only [Act.put, List.setIfInBounds_toArray, List.set_cons_zero, List.set_cons_succ]
              refine wpAnyH_take (i := 15) (v := .int .i64 (pre.length : Int)) (by simp only [List.getElem?_toArray, List.getElem?_cons_zero, List.getElem?_cons_succ]; rfl) (by kernel_rfl) (by kernel_rfl) (by kernel_rfl) (fun _ _ _ h => h) (Or.inl ⟨by rfl, fun W hSw => ?_⟩) (by assumption) ?_
              · clear hSw
                go_simp
              simp only [Act.put, List.setIfInBounds_toArray, List.set_cons_zero, List.set_cons_succ]
              refine wpAnyH_take (i := 16) (v := .int .i64 (k9 : Int)) (by simp only [List.getElem?_toArray, List.getElem?_cons_zero, List.getElem?_cons_succ]; rfl) (by kernel_rfl) (by kernel_rfl) (by kernel_rfl) (fun _ _ _ h => h) (Or.inl ⟨by rfl, fun W hSw => ?_⟩) (by assumption) ?_
              · clear hSw
                go_simp
              simp only [Act.put, List.setIfInBounds_toArray, List.set_cons_zero, List.set_cons_succ]
              refine wpAnyH_take (i := 17) (v := .pointer (some ⟨bd, od + k9, none⟩)) (by simp only [List.getElem?_toArray, List.getElem?_cons_zero, List.getElem?_cons_succ]; rfl) (by kernel_rfl) (by kernel_rfl) (by kernel_rfl) (fun _ _ _ h => h) (Or.inl ⟨by rfl, fun W hSw => ?_⟩) (by assumption) ?_
              · clear hSw
                go_simp
              simp only [Act.put, List.setIfInBounds_toArray, List.set_cons_zero, List.set_cons_succ]
              refine wpAnyH_take (i := 18) (v := .int .u8 (x.toNat : Int)) (by simp only [List.getElem?_toArray, List.getElem?_cons_zero, List.getElem?_cons_succ]; rfl) (by kernel_rfl) (by kernel_rfl) (by kernel_rfl) (fun _ _ _ h => h) (Or.inl ⟨by rfl, fun W hSw => ?_⟩) (by assumption) ?_
              · have hcw := (hSw.cell (p := ⟨bd, od + k9, none⟩) hbd).trans hcd
                clear hSw
                go_simp
              simp only [Act.put, List.setIfInBounds_toArray, List.set_cons_zero, List.set_cons_succ]
              have hbn := hbq.alloc hbq.size (.cells #[.int .u8 (x.toNat : Int)] 5)
              have hG9 : Blk (wd.alloc (.cells #[.int .u8 (x.toNat : Int)] 5)) wd.heap.size [bv x] 5 := Blk.newAt rfl
              refine wpAnyH_ready (rs := [19]) (by kernel_rfl) (by simp) ?_
              refine AllReadyH.cons (by simp only [List.getElem?_toArray, List.getElem?_cons_zero, List.getElem?_cons_succ]; rfl) (fun K hK => ?_) AllReadyH.nil
              rw [if_pos (by rfl)]
              go_simp
              refine hK.out _ _ hbn (fun _ => ?_)
              clear hK K
              refine wpAnyH_ready (rs := [20]) (by kernel_rfl) (by simp) ?_
              refine AllReadyH.cons (by simp only [List.getElem?_toArray, List.getElem?_cons_zero, List.getElem?_cons_succ]; rfl) (fun K hK => ?_) AllReadyH.nil
              rw [if_pos (by rfl)]
              go_simp
              go_at_call 25
              refine (HLi.out _ hbn _ hG9).mono ?_
              rintro e w' ⟨rfl, rfl⟩
              dsimp only
              refine hK.out _ _ hbn (fun _ => ?_)
              clear hK K
              refine wpAnyH_take (i := 21) (v := .int .i64 (xc + X)) (by simp only [List.getElem?_toArray, List.getElem?_cons_zero, List.getElem?_cons_succ]; rfl) (by kernel_rfl) (by kernel_rfl) (by kernel_rfl) (fun _ _ _ h => h) (Or.inl ⟨by rfl, fun W hSw => ?_⟩) (by assumption) ?_
              · clear hSw
                go_simp
              simp only [Act.put, List.setIfInBounds_toArray, List.set_cons_zero, List.set_cons_succ]
              refine wpAnyH_take (i := 22) (v := .bool false) (by simp only [List.getElem?_toArray, List.getElem?_cons_zero, List.getElem?_cons_succ]; rfl) (by kernel_rfl) (by kernel_rfl) (by kernel_rfl) (fun _ _ _ h => h) (Or.inl ⟨by rfl, fun W hSw => ?_⟩) (by assumption) ?_
              · clear hSw
                go_simp
              simp only [Act.put, List.setIfInBounds_toArray, List.set_cons_zero, List.set_cons_succ]
              refine wpAnyH_take (i := 23) (v := .bool false) (by simp only [List.getElem?_toArray, List.getElem?_cons_zero, List.getElem?_cons_succ]; rfl) (by kernel_rfl) (by kernel_rfl) (by kernel_rfl) (fun _ _ _ h => h) (Or.inl ⟨by rfl, fun W hSw => ?_⟩) (by assumption) ?_
              · clear hSw
                go_simp
              simp only [Act.put, List.setIfInBounds_toArray, List.set_cons_zero, List.set_cons_succ]
              refine wpAnyH_take (i := 24) (v := .bool false) (by simp only [List.getElem?_toArray, List.getElem?_cons_zero, List.getElem?_cons_succ]; rfl) (by kernel_rfl) (by kernel_rfl) (by kernel_rfl) (fun _ _ _ h => h) (Or.inl ⟨by rfl, fun W hSw => ?_⟩) (by assumption) ?_
              · clear hSw
                go_simp
              simp only [Act.put, List.setIfInBounds_toArray, List.set_cons_zero, List.set_cons_succ]
              refine wpAnyH_done (by kernel_rfl) ?_ _
              refine NoOut.normal ?_
              have hcn := (HI.out.l.below hbn HI.out.l.lt).cell (k := 0) rfl
              have hzn := (HI.out.l.below hbn HI.out.l.lt).frozen 0
              have HFi := hid (HPt.out _ hbn)
              clear hHeld hb3 hbq hG9 hlv hcd
              generalize wd.alloc (.cells #[.int .u8 (x.toNat : Int)] 5) = wz at *
              gi_wp2
              exact HFi.out
          case hrest =>
            rintro D3 xs W hDD hF hK9
            have HHw := hid (HH49.out.low hF.low)
            have HDw := hid (HDf49.out.cons hF.low (by have := HEq.out.2; have := HLA.out; omega) (by have := HH49.out.r.lt; omega) hK9)
            have hlz := hF.l.cell (k := 0) rfl
            have hl0 : lastV (costsL (tabF C bs H.length Wd D)) (enumI (costsL (tabF C bs H.length Wd D))).length = 0 := by
              rw [enumI_length, HCl.out]
              show (costsL (tabF C bs H.length Wd D)).getD Dt.length 0 = 0
              have h1 := costF_least C bs H.length Wd D Dt.length
              rw [HDr.out, least_end] at h1
              exact h1
            rw [hl0] at hlz
            clear hF hK9 hDD hl0
            go_wp2_with fail
            refine (HW.out _).mono ?_
            rintro e w40 ⟨rfl, hb40⟩
            have HHz := hid (HHw.out.low hb40)
            have HDz := hid (HDw.out.low hb40)
            have r40 := HHz.out.r.cell (k := 0) rfl
            have z40 := HHz.out.r.frozen 0
            clear hb40 hlz
            go_wp2
            have hrs := HHz.out.r.set 0 (.bool true)
            have hbs := HHz.out.below.setCell (p := ⟨w.heap.size + 2, 0, none⟩) (by simp) (.bool true)
            have hdf : DfOk (w.heap.size + 3) (D3 :: ds) (w40.setCell ⟨w.heap.size + 2, 0, none⟩ (.bool true)) := ⟨HDz.out.1, fun D' h' => ⟨(HDz.out.2 D' h').1, by
              have h3 := (HDz.out.2 D' h').1
              exact (Below.heap_setCell _ _ _ _ (by dsimp only; omega)).trans (HDz.out.2 D' h').2⟩⟩
            clear r40 z40
            generalize w40.setCell ⟨w.heap.size + 2, 0, none⟩ (.bool true) = W9 at *
            refine leaves_dfs (w.heap.size + 3) (D3 :: ds) W9 hdf (fun w' h1 h2 => ?_)
            have hR' : Blk w' (w.heap.size + 2) [.bool true] 4 := (h1 _ (by omega)).trans hrs
            have q1 := hR'.cell (k := 0) rfl
            exact ⟨.bool true, by simp [results, Tryz.results8, go_sem, q1], rfl, h2 w (by omega) hbs⟩
end Go.Proofs.YtiagbejfghincaaGreat
namespace Go.Proofs.YtiagbejfghincaaGreat.LBestHolds
open Go.ChangeShapes Go.WideShapes Go.ChangeAt Go.RowKit Go.Port
set_option maxRecDepth 100000 in
set_option maxHeartbeats 4000000 in
theorem lifted (os : Os) (started : os.Started) (H : Type) (enc : TypeId × Value → H) :
    ReturnsInHanded {} Tryz.checked os 8 .any (Rows.bestHoldsSpec.pre6 enc Tryz.prog Tryz.f8 Rows.bestHoldsRow.domain false) (Rows.bestHoldsSpec.post enc Tryz.prog Tryz.f8 false true false false) := by
  refine returnsInHanded_of_change (C := Tryz.checked) Tryz.own started (by kernel_rfl) Tryz.func8
    (ChangeSpec.witness6 (enc := enc) (C := Tryz.checked) false ⟨#[], #[.agg #[.slice none 0 0, .slice none 0 0, .int .i64 0, .int .i64 0, .slice none 0 0, .slice none 0 0, .slice none 0 0, .slice none 0 0], .slice none 0 0], []⟩ 8 (by kernel_rfl) (by kernel_rfl) (by kernel_rfl) (by kernel_rfl)) ?_
  intro W base args ds gs before hval0 hW hcnd _
  have hval : ∀ (j : Nat) t v, Tryz.f8.params[j]? = some t → args[j]? = some v → Value.okWide Tryz.prog W .any base t v := hval0
  have hW' := hW
  obtain ⟨p, q, hA0, hV, rfl, hfz, hnd⟩ := hW
  have hA : DataW.TrodAll enc Tryz.prog W 0 (fun _ => true) true Tryz.f8.params.toList args.toList ds p := hA0
  rw [Tryz.params8] at hA hval
  obtain ⟨v0, vs0, d0, ds0, p0, q0, hargs, rfl, rfl, h0, r0⟩ := trodAll_cons hA
  obtain ⟨v1, vs1, d1, ds1, p1, q1, rfl, rfl, rfl, h1, r1⟩ := trodAll_cons r0
  obtain ⟨rfl, rfl, rfl⟩ := trodAll_nil r1
  obtain rfl : args = #[v0, v1] := by cases args; simp_all
  obtain ⟨rfl, rfl⟩ := trodVars_none hV
  obtain ⟨a0, c0, H0, e0, f0, D0, W0, G0, A0, cp0, C0, rfl, hS0⟩ := open_scene (hval 0 26 v0 rfl rfl) h0
  obtain ⟨l1, hl1, wl1⟩ := open_rowV Tryz.underlying22 Tryz.underlying5 (by kernel_rfl) (hval 1 22 v1 rfl rfl) h1
  obtain ⟨bs1, hbs1, hn1⟩ := bytes_of wl1
  rw [hbs1, ← hn1] at hl1
  clear hA0 hval0
  simp only [List.append_nil] at hW'
  refine (BestHolds_walk W a0 c0 H0 e0 f0 D0 W0 G0 A0 cp0 C0 hS0 v1 bs1 hl1).mono fun e W' ⟨he, hb⟩ => ?_
  subst he
  exact ⟨_, rfl, law_post Tryz.kids Tryz.full Tryz.underlying4 rfl rfl hW' (by rw [Tryz.params8]; decide) rfl rfl rfl hb⟩
theorem over : Rows.bestHoldsRow.holds Tryz.pinned (OpenSpec.ofChange Rows.bestHoldsSpec) :=
  OpenClaim.holds_of_wide 8 Tryz.f8 rfl rfl rfl rfl rfl rfl rfl ⟨rfl, rfl, rfl, rfl, rfl⟩ rfl rfl rfl rfl rfl (by kernel_rfl) Tryz.func8 (by kernel_rfl)
    (of_decide_eq_true (by kernel_rfl)) (by unfold Func.isWrapper; first | (rw [if_pos (by decide +kernel)]; kernel_rfl) | (rw [if_neg (by decide +kernel)]; exact ⟨rfl, rfl⟩))
    (fun os started H enc _ => lifted os started H enc)
/-- The statement. -/
theorem proved : Rows.BestHoldsSaid :=
  over
end Go.Proofs.YtiagbejfghincaaGreat.LBestHolds
