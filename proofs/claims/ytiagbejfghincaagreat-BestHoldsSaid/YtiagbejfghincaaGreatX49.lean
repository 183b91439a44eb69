/-
  Chapter 33's laws: what a scene is in memory, and what is made of it.
  The walks of layer 33 (best): the iterator over the minimal costs.
-/
import Derived.Test.YtiagbejfghincaaGreatX41
import Derived.Test.YtiagbejfghincaaGreatX45
import Derived.Test.YtiagbejfghincaaGreatX42
import Derived.Test.YtiagbejfghincaaGreatX39
import Derived.Laws.IdiomArrays
import Derived.OwnWalkIn
import Derived.TacticsInMore
import Derived.LoopNIn
import Derived.LoopIn
import Derived.WalkMore
namespace Go.Proofs.YtiagbejfghincaaGreat
open Go.RowKit Go.Port
/-- What a scene's slices read. -/
structure SceneAt (W : World) (a1 : Option Addr) (c1 : Nat) (H : List UInt8) (a2 : Option Addr) (c2 : Nat) (Dt : List UInt8) (Ar : Nat → Option Addr) (cp : Nat → Nat) (C : Nat → List Int) : Prop where
  h1 : H.length ≤ c1
  h2 : Dt.length ≤ c2
  h3 : a1 = none → c1 = 0
  h4 : a2 = none → c2 = 0
  hc1 : CellsAt W a1 (H.map bv)
  hc2 : CellsAt W a2 (Dt.map bv)
  hf : FourAt W Ar cp C
  hm : c2 ≤ maxLen
theorem SceneAt.low {W W' : World} {a1 : Option Addr} {c1 : Nat} {H : List UInt8} {a2 : Option Addr} {c2 : Nat} {Dt : List UInt8} {Ar : Nat → Option Addr} {cp : Nat → Nat} {C : Nat → List Int} (h : SceneAt W a1 c1 H a2 c2 Dt Ar cp C) (hb : Below W.heap.size W W') : SceneAt W' a1 c1 H a2 c2 Dt Ar cp C :=
  ⟨h.h1, h.h2, h.h3, h.h4, h.hc1.low hb, h.hc2.low hb, h.hf.low hb, h.hm⟩
theorem made33_any (a1 a2 : Option Addr) (c1 c2 : Nat) (H Dt : List UInt8) (Wd D : Int) (Ar : Nat → Option Addr) (cp : Nat → Nat) (C : Nat → List Int) (w : World) (hs : SceneAt w a1 c1 H a2 c2 Dt Ar cp C) :
    Calls Tryz.prog 11 #[sceneV a1 H.length c1 a2 Dt.length c2 Wd D Ar cp C] w fun e w' => (e = .returned (.tuple #[.agg #[.pointer none, .pointer none, .slice none 0 0, .int .i64 0, .int .i64 0, .int .i64 0, .slice none 0 0, .slice none 0 0, .slice none 0 0, .slice none 0 0], .bool false]) ∧ Below w.heap.size w w') ∨
      (SceneOk H.length Dt.length Wd D C ∧ ∃ F M ar cr, e = .returned (.tuple #[.agg #[.pointer (some ⟨F, 0, none⟩), .pointer (some ⟨M, 0, none⟩), .slice ar (H ++ Dt).length cr, .int .i64 (H.length : Int), .int .i64 Wd, .int .i64 D, .slice (Ar 0) (C 0).length (cp 0), .slice (Ar 1) (C 1).length (cp 1), .slice (Ar 2) (C 2).length (cp 2), .slice (Ar 3) (C 3).length (cp 3)], .bool true]) ∧
      FdAt 76 159 (H ++ Dt) H.length Wd D F w' ∧ PrAt w' M C ∧ CellsAt w' ar ((H ++ Dt).map bv) ∧ (H ++ Dt).length ≤ cr ∧ Below w.heap.size w w') := by
  by_cases hok : SceneOk H.length Dt.length Wd D C
  · exact (made33_ok a1 a2 c1 c2 H Dt Wd D Ar cp C w hs.h1 hs.h2 hs.h3 hs.h4 hs.hc1 hs.hc2 hs.hf hok).mono fun e w' h => .inr ⟨hok, h⟩
  · exact (made33_bad a1 a2 c1 c2 H Dt Wd D Ar cp C w hs.h1 hs.h2 hs.h3 hs.h4 hs.hc1 hs.hc2 hs.hf hok).mono fun e w' h => .inl h
theorem Rs.bytes {w : World} {v : Value} {l : List UInt8} (h : Rs w 1 v l.length (l.map bv)) : ∃ a c, v = .slice a l.length c ∧ l.length ≤ c ∧ (a = none → c = 0) ∧ CellsAt w a (l.map bv) ∧ c ≤ maxLen := by
  obtain ⟨_, a, c, h1, h2, h3, h4, h5⟩ := h
  exact ⟨a, c, h1, h2, h4, h5, h3⟩
set_option maxRecDepth 100000 in
set_option maxHeartbeats 4000000 in
theorem open_scene {H0 : Type} {enc : TypeId × Value → H0} {W : World} {v : Value} {d : DataW H0} {ps : List MemPlace} {b0 : Nat}
    (hv : Value.okWide Tryz.prog W .any b0 26 v) (hd : DataW.Trod enc Tryz.prog W 0 (fun _ => true) true 26 v d ps) :
    ∃ (a1 : Option Addr) (c1 : Nat) (H : List UInt8) (a2 : Option Addr) (c2 : Nat) (Dt : List UInt8) (Wd D : Int) (Ar : Nat → Option Addr) (cp : Nat → Nat) (C : Nat → List Int), v = sceneV a1 H.length c1 a2 Dt.length c2 Wd D Ar cp C ∧ SceneAt W a1 c1 H a2 c2 Dt Ar cp C := by
  have ht := Tryz.underlying26
  have hce : Tryz.prog.cellsOf 26 = 8 := by kernel_rfl
  have hc1 : Tryz.prog.cellsOf 22 = 1 := by kernel_rfl
  have hc2 : Tryz.prog.cellsOf 3 = 1 := by kernel_rfl
  have hc3 : Tryz.prog.cellsOf 23 = 1 := by kernel_rfl
  have hc4 : Tryz.prog.cellsOf 24 = 4 := by kernel_rfl
  have hcu : Tryz.prog.cellsOf 5 = 1 := by kernel_rfl
  simp only [Value.okWide, ht] at hv
  obtain ⟨cs, rfl, hsz, _⟩ := hv
  rw [hce] at hsz
  obtain ⟨m, hf⟩ := hd
  replace hf : DataW.trod enc Tryz.prog W 0 (fun _ => true) true m 26 cs.toList = some (d, ps) := hf
  obtain ⟨l⟩ := cs
  match l, hsz with
  | [u0, u1, u2, u3, u4, u5, u6, u7], _ =>
    obtain ⟨ys, n2, _, _, _, hyl, hyg⟩ := DataW.trod_struct ht hf
    have y0 := hyg 0 _ rfl
    have y1 := hyg 1 _ rfl
    have y2 := hyg 2 _ rfl
    have y3 := hyg 3 _ rfl
    have y4 := hyg 4 _ rfl
    obtain ⟨w0, hw0⟩ : ∃ x0, ys[0]? = some x0 := ⟨_, List.getElem?_eq_getElem (by rw [hyl]; decide)⟩
    obtain ⟨w1, hw1⟩ : ∃ x0, ys[1]? = some x0 := ⟨_, List.getElem?_eq_getElem (by rw [hyl]; decide)⟩
    obtain ⟨w2, hw2⟩ : ∃ x0, ys[2]? = some x0 := ⟨_, List.getElem?_eq_getElem (by rw [hyl]; decide)⟩
    obtain ⟨w3, hw3⟩ : ∃ x0, ys[3]? = some x0 := ⟨_, List.getElem?_eq_getElem (by rw [hyl]; decide)⟩
    obtain ⟨w4, hw4⟩ : ∃ x0, ys[4]? = some x0 := ⟨_, List.getElem?_eq_getElem (by rw [hyl]; decide)⟩
    rw [hw0] at y0
    rw [hw1] at y1
    rw [hw2] at y2
    rw [hw3] at y3
    rw [hw4] at y4
    have z0 : DataW.trod enc Tryz.prog W 0 (fun _ => true) true n2 22 [u0] = some w0 := by simpa [hc1, hc2, hc4] using y0
    have z1 : DataW.trod enc Tryz.prog W 0 (fun _ => true) true n2 22 [u1] = some w1 := by simpa [hc1, hc2, hc4] using y1
    have z2 : DataW.trod enc Tryz.prog W 0 (fun _ => true) true n2 3 [u2] = some w2 := by simpa [hc1, hc2, hc4] using y2
    have z3 : DataW.trod enc Tryz.prog W 0 (fun _ => true) true n2 3 [u3] = some w3 := by simpa [hc1, hc2, hc4] using y3
    have z4 : DataW.trod enc Tryz.prog W 0 (fun _ => true) true n2 24 [u4, u5, u6, u7] = some w4 := by simpa [hc1, hc2, hc4] using y4
    obtain ⟨q1, r1, b1⟩ := open_row Tryz.underlying22 Tryz.underlying5 hcu rfl z0
    obtain ⟨q2, r2, b2⟩ := open_row Tryz.underlying22 Tryz.underlying5 hcu rfl z1
    obtain ⟨x2, hx2, _, f2⟩ := DataW.trod_int Tryz.underlying3 z2
    obtain ⟨x3, hx3, _, f3⟩ := DataW.trod_int Tryz.underlying3 z3
    simp only [List.cons.injEq, and_true] at hx2 hx3
    subst hx2 hx3
    obtain ⟨H, hH, nH⟩ := bytes_of b1
    obtain ⟨Dt, hD, nD⟩ := bytes_of b2
    rw [hH, ← nH] at r1
    rw [hD, ← nD] at r2
    obtain ⟨a1, k1, rfl, e1, g1, i1, _⟩ := Rs.bytes r1
    obtain ⟨a2, k2, rfl, e2, g2, i2, m2⟩ := Rs.bytes r2
    obtain ⟨y0, y1, y2, y3, n, _, z0, z1, z2, z3⟩ := Go.ChangeShapes.trod_array4 Tryz.underlying24 hc3 z4
    obtain ⟨l0, r0, b0⟩ := open_row Tryz.underlying23 Tryz.underlying3 hc2 rfl z0
    obtain ⟨l1, r1, b1⟩ := open_row Tryz.underlying23 Tryz.underlying3 hc2 rfl z1
    obtain ⟨l2, r2, b2⟩ := open_row Tryz.underlying23 Tryz.underlying3 hc2 rfl z2
    obtain ⟨l3, r3, b3⟩ := open_row Tryz.underlying23 Tryz.underlying3 hc2 rfl z3
    obtain ⟨p0, c0, rfl, s0, t0, v0, j0⟩ := Rs.four r0
    obtain ⟨p1, c1, rfl, s1, t1, v1, j1⟩ := Rs.four r1
    obtain ⟨p2, c2, rfl, s2, t2, v2, j2⟩ := Rs.four r2
    obtain ⟨p3, c3, rfl, s3, t3, v3, j3⟩ := Rs.four r3
    exact ⟨a1, k1, H, a2, k2, Dt, x2, x3, four4 p0 p1 p2 p3, four4 c0 c1 c2 c3, four4 l0 l1 l2 l3, rfl, e1, e2, g1, g2, i1, i2, ⟨four4_all s0 s1 s2 s3, four4_all t0 t1 t2 t3, four4_all v0 v1 v2 v3, four4_all j0 j1 j2 j3⟩, m2⟩
end Go.Proofs.YtiagbejfghincaaGreat
namespace Go.Port
open Go.RowKit
def enumI (l : List Int) : List (Int × Int) := l.zipIdx.map fun p => ((p.2 : Int), p.1)
theorem enumI_snoc (l : List Int) (x : Int) : enumI (l ++ [x]) = enumI l ++ [((l.length : Int), x)] := by
  unfold enumI
  rw [List.zipIdx_append, List.map_append]
  simp
theorem enumI_length (l : List Int) : (enumI l).length = l.length := by simp [enumI]
theorem enumI_take {l : List Int} {k : Nat} {x : Int} (h : l[k]? = some x) : enumI (l.take (k + 1)) = enumI (l.take k) ++ [((k : Int), x)] := by
  obtain ⟨h1, h2⟩ := List.getElem?_eq_some_iff.1 h
  rw [List.take_succ_eq_append_getElem h1, h2, enumI_snoc, List.length_take, Nat.min_eq_left (Nat.le_of_lt h1)]
theorem enumI_pre (l : List Int) (k : Nat) : ∃ rest, enumI (l.take k) ++ rest = enumI l := by
  refine ⟨(enumI l).drop k, ?_⟩
  have : enumI (l.take k) = (enumI l).take k := by
    unfold enumI
    rw [← List.map_take]
    congr 1
    apply List.ext_getElem?
    intro j
    rw [List.getElem?_take, List.getElem?_zipIdx, List.getElem?_zipIdx, List.getElem?_take]
    split <;> rfl
  rw [this]
  exact List.take_append_drop k _
theorem enumI_get {l : List Int} {k : Nat} {x : Int × Int} (h : (enumI l)[k]? = some x) : x.1 = (k : Int) ∧ l[k]? = some x.2 := by
  unfold enumI at h
  rw [List.getElem?_map, List.getElem?_zipIdx] at h
  cases h2 : l[k]? with
  | none => rw [h2] at h; simp at h
  | some y =>
    rw [h2] at h
    simp only [Option.map_some, Option.some.injEq] at h
    subst h
    exact ⟨by simp, rfl⟩
end Go.Port
namespace Go.Proofs.YtiagbejfghincaaGreat
open Go.RowKit Go.Port
attribute [local go_sem] Oper.semAt_some
set_option maxRecDepth 100000 in
set_option maxHeartbeats 4000000 in
theorem bcosts1_seq (X : Nat → Prop) (T : TypeId → Bool) (qe qt Tb gc c : Nat) (cs : List Int) (w0 : World) (hl : cs.length ≤ 1000001) (h1 : X qe) (h2 : X qt) (h3 : X Tb) (h4 : X gc) (b1 : w0.cell? ⟨qe, 0, none⟩ = some (.int .i64 0)) (b2 : w0.cell? ⟨qt, 0, none⟩ = some (.pointer (some ⟨Tb, 0, none⟩)))
    (b3 : w0.cell? ⟨Tb, 0, none⟩ = some (.slice (some ⟨gc, 0, none⟩) cs.length c)) (b4 : ∀ j u, (cs.map iv)[j]? = some u → w0.cell? ⟨gc, j, none⟩ = some u) :
    SeqSt Tryz.prog 43 #[.pointer (some ⟨qe, 0, none⟩), .pointer (some ⟨qt, 0, none⟩)] (fun x : Int × Int => #[.int .i64 x.1, .int .i64 x.2]) (fun xs => xs = enumI cs) (fun xs => ∃ rest, xs ++ rest = enumI cs) X T w0 := by
  intro lp J Jx W hW hJ hJx hY hJ0
  have hT0 : TrX X w0 W := TrX.low hW
  have c1 := hT0 _ _ (show X (⟨qe, 0, none⟩ : Addr).block from h1) b1
  have c2 := hT0 _ _ (show X (⟨qt, 0, none⟩ : Addr).block from h2) b2
  have c3 := hT0 _ _ (show X (⟨Tb, 0, none⟩ : Addr).block from h3) b3
  have c3l := World.block_lt_of_cell? W _ c3
  dsimp only at c3l
  have HC := hid (fun (W' : World) (hT : TrX X w0 W') j u hu => hT ⟨gc, j, none⟩ u h4 (b4 j u hu))
  have HY := hid hY
  have HJ := hid hJ
  have hT := hT0
  clear b1 b2 b3 b4 hY hT0 hJx hJ
  refine callsIn_of_wp Tryz.func43 rfl trivial ?_ rfl
  simp only [Tryz.ntmps43, List.size_toArray, List.length_cons, List.length_nil, Nat.reduceAdd, Nat.reduceSub, Array.replicate_succ, Array.replicate_zero, List.push_toArray, List.append_toArray, List.nil_append, List.cons_append]
  gi_wp2
  refine wpIn_wide.2 (wp_scope_straight ((wpIn_wide (n := 0)).1 ?_))
  gi_wp2
  refine wpIn_label ?_
  gi_wp2
  gi_loopw [14] (fun i wr => ∃ (k : Nat), k ≤ cs.length ∧ i = .int .i64 k ∧ J (enumI (cs.take k)) wr ∧ TrX X w0 wr) (fun i _ => cs.length - (intOf i).toNat)
  case atStart => exact ⟨0, Nat.zero_le _, rfl, hJ0, hT⟩
  case round =>
    clear c1 c2 c3 c3l
    obtain ⟨k, hk, rfl, hJk, hTr⟩ := hrel
    by_cases hlt : k < cs.length
    · obtain ⟨x, hx⟩ : ∃ x, cs[k]? = some x := ⟨cs[k], by simp [hlt]⟩
      have c0 := HC.out wr hTr k (.int .i64 x) (by rw [List.getElem?_map, hx]; rfl)
      have HST := hid (enumI_take hx)
      have HPre := hid (enumI_pre cs (k + 1))
      have HT := hid hTr
      have HK := hid hlt
      have HJk := hid hJk
      clear hx hTr hJk hk hlt
      have tk : (k : Int) < (cs.length : Int) := by have := HK.out; omega
      obtain ⟨fn, tmps, assign, body, hy, hRy⟩ := HY.out (enumI (cs.take k)) ((k : Int), x) _ HJk.out (by rw [← HST.out]; exact HPre.out)
      have hy2 : (Instr.yield lp #[.int .i64 (k : Int), .int .i64 x]).run Tryz.prog wr = .ok (.round lp fn tmps assign body) wr := hy
      have HRy := hid hRy
      clear hy hRy
      gi_wp2
      refine ⟨rfl, HRy.out.mono ?_⟩
      rintro e w2 ⟨hkp, (⟨rfl, hJ2⟩ | ⟨rfl, hJx2⟩)⟩
      · gi_wp2
        go_roundw
        case rel =>
          refine ⟨k + 1, HK.out, by go_num, ?_, HT.out.trans (TrX.of_keeps hkp)⟩
          rw [HST.out]
          exact hJ2
        case measure =>
          have := HK.out
          simp [intOf]; omega
      · have HE := hid (show ∃ rest, (enumI (cs.take k) ++ [((k : Int), x)]) ++ rest = enumI cs from by rw [← HST.out]; exact HPre.out)
        gi_wp2
        simp only [Exit.noGoto_normal]
        refine bodyPost_end (results_none rfl _ _ _) rfl ?_
        exact ⟨⟨_, rfl⟩, .inr ⟨_, HE.out, hJx2⟩⟩
    · obtain rfl : k = cs.length := by omega
      rw [List.take_of_length_le (Nat.le_refl _)] at hJk
      gi_wp2
      simp only [Exit.noGoto_normal]
      refine bodyPost_end (results_none rfl _ _ _) rfl ?_
      exact ⟨⟨_, rfl⟩, .inl ⟨_, rfl, hJk⟩⟩
set_option maxRecDepth 100000 in
theorem bcosts_ok (bs : List UInt8) (A : Nat) (Wd D : Int) (F M : Nat) (C : Nat → List Int) (w : World) (hf : FdAt 76 159 bs A Wd D F w) (hp : PrAt w M C) (hch : Choices (bs.drop A).length (chF bs A Wd D)) :
    Calls Tryz.prog 22 #[.pointer (some ⟨F, 0, none⟩), .pointer (some ⟨M, 0, none⟩)] w fun e w' => ∃ qe qt Tb gc gf, e = .returned (.func (.func 43) #[] #[.pointer (some ⟨qe, 0, none⟩), .pointer (some ⟨qt, 0, none⟩)]) ∧ Below w.heap.size w w' ∧ w.heap.size ≤ qe ∧ w.heap.size ≤ qt ∧ w.heap.size ≤ Tb ∧ w.heap.size ≤ gc ∧
      Blk w' qe [.int .i64 0] 46 ∧ Blk w' qt [.pointer (some ⟨Tb, 0, none⟩)] 94 ∧ TabR w' Tb gc gf (tabF C bs A Wd D) := by
  have HTa := hid (btab_r bs A Wd D F M C w hf hp hch)
  have hmf : ∀ (fn : Fn) (first cap : Array Value) (w : World), (Instr.makeFunc fn first cap).run Tryz.prog w = .ok (.func fn first cap) w := fun _ _ _ _ => rfl
  clear hf hp hch
  go_enter Tryz.func22, Tryz.ntmps22
  go_wp2_with fail
  refine HTa.out.mono ?_
  rintro e w2 ⟨T, gc, gf, rfl, hb2, hT, hc, hR⟩
  have h1 := below_new w2 (.cells #[.pointer (some ⟨T, 0, none⟩)] 94)
  have h2 := h1.alloc h1.size (.cells #[.int .i64 0] 46)
  have HB2 := hid (hb2.trans (h2.mono hb2.size))
  have HR := hid (hR.low h2)
  have HTw := hid (And.intro hT (And.intro hc hb2.size))
  have HE1 := hid (show Blk ((w2.alloc (.cells #[.pointer (some ⟨T, 0, none⟩)] 94)).alloc (.cells #[.int .i64 0] 46)) w2.heap.size [.pointer (some ⟨T, 0, none⟩)] 94 from (Blk.newAt rfl).alloc _)
  have HE2 := hid (show Blk ((w2.alloc (.cells #[.pointer (some ⟨T, 0, none⟩)] 94)).alloc (.cells #[.int .i64 0] 46)) (w2.heap.size + 1) [.int .i64 0] 46 from Blk.newAt (by simp))
  clear h1 h2 hb2 hT hc hR
  go_wp2
  go_ret
  have hs := HTw.out.2.2
  exact ⟨w2.heap.size + 1, w2.heap.size, T, gc, gf, rfl, HB2.out, by omega, hs, HTw.out.1, HTw.out.2.1, HE2.out, HE1.out, HR.out⟩
end Go.Proofs.YtiagbejfghincaaGreat
