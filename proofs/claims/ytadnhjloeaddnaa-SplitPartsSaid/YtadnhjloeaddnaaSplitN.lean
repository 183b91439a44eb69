/-
  The walks of the split, fourteenth part: the cost of cut points.
-/
import Derived.Test.YtadnhjloeaddnaaSplitM
import Derived.RecoverIn
import Derived.RangeFuncCalls
import Derived.Shelf.RegionOpen
namespace Go.Port
open Go.RowKit

theorem worth_small (bs : List UInt8) (cuts : List Int) (last : Nat) (hl : last ≤ bs.length) (h : riseB bs.length last cuts = true) : worthGo bs last (cuts ++ [(bs.length : Int)]) ≤ 49152 * ((bs.length - last : Nat) : Int) := by
  induction cuts generalizing last with
  | nil =>
    have h1 := partS_le (seg bs last bs.length)
    rw [seg_length _ _ _ (Nat.le_refl _)] at h1
    simp only [List.nil_append, worthGo, Int.toNat_natCast, Int.add_zero]
    exact h1
  | cons c r ih =>
    rw [riseB] at h
    simp only [Bool.and_eq_true, decide_eq_true_eq] at h
    obtain ⟨C, rfl⟩ : ∃ C : Nat, c = (C : Int) := ⟨c.toNat, by omega⟩
    have h1 := partS_le (seg bs last C)
    rw [seg_length _ _ _ (by omega)] at h1
    have h2 := ih C (by omega) h.2
    simp only [List.cons_append, worthGo, Int.toNat_natCast]
    omega
end Go.Port
namespace Go.Proofs.Ytadnhjloeaddnaa
open Go.RowKit Go.Port

attribute [local go_sem] Oper.semAt_some

theorem zero_any (p : Addr) (x : Int) (w : World) (hc : w.cell? p = some (.int .i64 x)) (hz : w.frozen? p = false) :
    Calls Try.prog 37 #[.pointer (some p)] w fun e w' => e = .returned (.tuple #[]) ∧ w' = w.setCell p (.int .i64 0) := by
  go_enter Try.func37, Try.ntmps37
  go_wp2
  go_end0
  exact ⟨rfl, rfl⟩

set_option maxRecDepth 100000 in
set_option maxHeartbeats 400000 in
theorem caught_idleIn (n : Nat) (p : Addr) (v : Value) (w : World) :
    CallsDIn Fence.wide n Try.prog 33 #[.pointer (some p), v] .returning w fun e u' w' => e = .returned (.tuple #[]) ∧ u' = .returning ∧ w' = w := by
  have hnil := iface_nil
  refine callsDIn_of_wpSIn Try.func33 rfl trivial fun c₀ cs hu => ?_
  simp only [Try.ntmps33, List.size_toArray, List.length_cons, List.length_nil, Nat.reduceAdd, Nat.reduceSub, Array.replicate_succ,
     Array.replicate_zero, List.push_toArray, List.append_toArray, List.nil_append, List.cons_append]
  apply wpSIn_seq
  apply wpSIn_region
  generalize hQ : (Exit.thenS _ _ : Exit → Act → List Frame → World → Prop) = Q
  simp [wpOpsSIn, go_sem, recoverD, hu, Fence.wide]
  subst hQ
  dsimp only [Exit.thenS]
  refine wpSIn_of_wpIn rfl ?_
  refine wpIn_wide.2 ?_
  go_wp2
  exact ⟨rfl, .returning, by cases c₀; simp_all, .tuple #[], results_none rfl _ _ _, rfl, rfl, rfl⟩

set_option maxRecDepth 100000 in
set_option maxHeartbeats 400000 in
theorem caught_costIn (n : Nat) (p pn : Addr) (x y : Int) (w : World) (hc : w.cell? p = some (.int .i64 x)) (hz : w.frozen? p = false) (hc2 : w.cell? pn = some (.int .i64 y)) (hz2 : w.frozen? pn = false) (hne : pn.block ≠ p.block) :
    CallsDIn Fence.wide n Try.prog 33 #[.pointer (some p), .func (.func 37) #[] #[.pointer (some pn)]] (.panicking [{ v := .iface 40 (.int .i64 2), recovered := false }]) w fun e u' w' =>
      e = .returned (.tuple #[]) ∧ u' = .panicking [{ v := .iface 40 (.int .i64 2), recovered := true }] ∧ w' = (w.setCell pn (.int .i64 0)).setCell p (.int .i64 2) := by
  have herr := iface_err 2
  have hta := iface_is 2
  have hc3 : (w.setCell pn (.int .i64 0)).cell? p = some (.int .i64 x) := by rw [World.cell?_setCell_far _ _ _ _ hne]; exact hc
  have hz3 : (w.setCell pn (.int .i64 0)).frozen? p = false := by rw [World.frozen?_setCell]; exact hz
  refine callsDIn_of_wpSIn Try.func33 rfl trivial fun c₀ cs hu => ?_
  simp only [Try.ntmps33, List.size_toArray, List.length_cons, List.length_nil, Nat.reduceAdd, Nat.reduceSub, Array.replicate_succ,
     Array.replicate_zero, List.push_toArray, List.append_toArray, List.nil_append, List.cons_append]
  apply wpSIn_seq
  apply wpSIn_region
  generalize hQ : (Exit.thenS _ _ : Exit → Act → List Frame → World → Prop) = Q
  simp [wpOpsSIn, go_sem, recoverD, hu, Fence.wide]
  subst hQ
  dsimp only [Exit.thenS]
  refine wpSIn_of_wpIn rfl ?_
  refine wpIn_wide.2 ?_
  go_wp2_with (go_at_call 37; refine (zero_any _ _ _ hc2 hz2).mono ?_; rintro e w' ⟨rfl, rfl⟩)
  exact ⟨rfl, _, by cases c₀; simp_all, .tuple #[], results_none rfl _ _ _, rfl, rfl, rfl⟩

/-- The iterator, at any later world in which what it captured lies. -/
theorem parts_seq (X : Nat → Prop) (B : Nat) (p5 p6 n : Nat) (bs : List UInt8) (cuts : List Int) (W0 w0 : World) (hNb : bs.length ≤ 200000) (hn : cuts.length = n) (hnb : n ≤ 9000) (hP : PartsAt B bs cuts n p5 p6 W0) (hT : Tr X W0 w0)
    (hX : ∀ k, B ≤ k → k < W0.heap.size → ¬ X k) :
    SeqAd Try.prog 43 #[.pointer (some ⟨p5, 0, none⟩), .pointer (some ⟨p6, 0, none⟩)] encsP AdP (fun xs => dataP xs = fullP bs cuts) (fun xs => ∃ rest, dataP xs ++ rest = fullP bs cuts) (KeepsBut X) w0 := by
  obtain ⟨vo, vp, h5, h6, b5, b6, ho, hp⟩ := hP
  obtain ⟨ao, co, rfl, hnc, hcm, hac, hcells⟩ := (Sl.of_owns ho).open
  obtain ⟨pb, cp, cs, rfl, hpb, hncp, hcp, bp, hcs⟩ := own_blk hp (Nat.succ_pos _)
  refine parts1_seq X ⟨p5, 0, none⟩ ⟨p6, 0, none⟩ ao co pb 0 n cp bs cuts w0 hNb hn hnb hncp hnc hac (hX _ h5 b5.lt) (hX _ h6 b6.lt) (hX _ hpb bp.lt) (hT _ _ (hX _ h5 b5.lt) (b5.cell (k := 0) rfl)) (hT _ _ (hX _ h6 b6.lt) (b6.cell (k := 0) rfl)) ?_ ?_
  · intro j u hu
    have hj : j < n + 1 := by
      have := (List.getElem?_eq_some_iff.1 hu).1
      simpa [hn] using this
    refine hT _ _ (hX _ hpb bp.lt) ?_
    rw [Nat.zero_add]
    refine bp.cell ?_
    rw [← hcs, List.getElem?_take_of_lt (by omega)] at hu
    exact hu
  · intro j u hu
    obtain ⟨b, off, hb1, hb2, hb3⟩ := hcells j u hu
    have hbB : B ≤ b := by
      refine (ho.lt b ?_).1
      subst hb1
      rcases ho.2 with ⟨h, _⟩ | ⟨g, cap, cur, h, _⟩
      · cases h
      · cases h
        rfl
    exact ⟨b, off, hb1, hX _ hbB hb2, hT _ _ (hX _ hbB hb2) hb3⟩

def sumP (xs : List PEl) : Int := ((dataP xs).map fun p => partS p.2).sum
theorem sumP_snoc (xs : List PEl) (x : PEl) : sumP (xs ++ [x]) = sumP xs + partS x.2.2 := by
  unfold sumP dataP
  simp

/-- What holds between two rounds. -/
def IC (w : World) (xs : List PEl) (W : World) : Prop := Blk W w.heap.size [iv (wrap64 (sumP xs))] 3 ∧ Blk W (w.heap.size + 1) [iv 0] 40 ∧ Below w.heap.size w W

theorem wrap_step (x y : Int) : IntKind.i64.wrap (wrap64 x + y) = wrap64 (x + y) := by
  rw [IntKind.wrap_i64]
  simp only [wrap64]
  omega

theorem IC_next {w W : World} {xs : List PEl} (h : IC w xs W) (T : Int) (v : Value) (b : List UInt8) : IC w (xs ++ [mkP T v b]) (W.setCell ⟨w.heap.size, 0, none⟩ (.int .i64 (IntKind.i64.wrap (wrap64 (sumP xs) + partS b)))) := by
  obtain ⟨h1, h2, h3⟩ := h
  refine ⟨?_, h2.other _ (by simp), h3.setCell (Nat.le_refl _) _⟩
  rw [sumP_snoc, ← wrap_step]
  exact h1.set 0 _

theorem AdP_stays (B : Nat) : Stays B AdP := fun x W W' row ⟨h0, a, c, h1, h2, h3, h4, h5⟩ hg hr =>
  ⟨h0, a, c, h1, h2, h3, h4, fun b off sp ha => by
    obtain ⟨k1, k2, k3⟩ := h5 b off sp ha
    exact ⟨k1, Nat.lt_of_lt_of_le k2 hg.size, fun j u hu => cell_kept (k3 j u hu) hg (fun r e => (hr r e).2)⟩⟩

theorem IC_stays (w : World) (B : Nat) (hB : w.heap.size + 2 ≤ B) : Stays B (IC w) := fun _ _ _ _ ⟨h1, h2, h3⟩ hg hr =>
  ⟨h1.grown hg (fun e => by have := (hr _ e.symm).1; omega), h2.grown hg (fun e => by have := (hr _ e.symm).1; omega), h3.grown hg h3.size (fun k hk => by have := (hr _ hk).1; omega)⟩

set_option maxRecDepth 100000 in
set_option maxHeartbeats 4000000 in
theorem cost_any (a a2 : Option Addr) (n c n2 c2 : Nat) (bs : List UInt8) (cuts : List Int) (w : World) (hnb : n2 ≤ 9000) (hn : bs.length = n) (hNb : n ≤ 200000) (hn2 : cuts.length = n2) (hnc : n ≤ c) (hac : a = none → c = 0) (hnc2 : n2 ≤ c2) (hac2 : a2 = none → c2 = 0)
    (hc : ∀ j u, (bs.map bv)[j]? = some u → ∃ b off, a = some ⟨b, off, none⟩ ∧ b < w.heap.size ∧ w.cell? ⟨b, off + j, none⟩ = some u)
    (hc2 : ∀ j u, (cuts.map iv)[j]? = some u → ∃ b off, a2 = some ⟨b, off, none⟩ ∧ b < w.heap.size ∧ w.cell? ⟨b, off + j, none⟩ = some u) :
    Calls Try.prog 24 #[.slice a n c, .slice a2 n2 c2] w (RetV w (.tuple #[.int .i64 (if riseB n 0 cuts = true then worthGo bs 0 (cuts ++ [(n : Int)]) else 0), .int .i64 (if riseB n 0 cuts = true then 0 else 2)])) := by
  have hmf : ∀ (fn : Fn) (first cap : Array Value) (w : World), (Instr.makeFunc fn first cap).run Try.prog w = .ok (.func fn first cap) w := fun _ _ _ _ => rfl
  have s1 : (w.alloc (.cells #[.int .i64 0] 3)).heap.size = w.heap.size + 1 := by simp
  have hb0 : Below w.heap.size w ((w.alloc (.cells #[.int .i64 0] 3)).alloc (.cells #[.int .i64 0] 40)) := (below_new w _).alloc (by omega) _
  have B1 : Blk ((w.alloc (.cells #[.int .i64 0] 3)).alloc (.cells #[.int .i64 0] 40)) w.heap.size [iv 0] 3 := (Blk.new w [iv 0] 3).alloc _
  have B2 : Blk ((w.alloc (.cells #[.int .i64 0] 3)).alloc (.cells #[.int .i64 0] 40)) (w.heap.size + 1) [iv 0] 40 := by
    have := Blk.new (w.alloc (.cells #[.int .i64 0] 3)) [iv 0] 40
    rwa [s1] at this
  have hz0 : ((w.alloc (.cells #[.int .i64 0] 3)).alloc (.cells #[.int .i64 0] 40)).heap.size = w.heap.size + 1 + 1 := by simp
  have hc' := fun (j : Nat) (u : Value) (hu : (bs.map bv)[j]? = some u) => (show ∃ b off, a = some ⟨b, off, none⟩ ∧ b < ((w.alloc (.cells #[.int .i64 0] 3)).alloc (.cells #[.int .i64 0] 40)).heap.size ∧ ((w.alloc (.cells #[.int .i64 0] 3)).alloc (.cells #[.int .i64 0] 40)).cell? ⟨b, off + j, none⟩ = some u from by
      obtain ⟨b, off, h1, h2, h3⟩ := hc j u hu
      exact ⟨b, off, h1, Nat.lt_of_lt_of_le h2 hb0.size, (hb0.cell (p := ⟨b, off + j, none⟩) h2).trans h3⟩)
  have hc2' := fun (j : Nat) (u : Value) (hu : (cuts.map iv)[j]? = some u) => (show ∃ b off, a2 = some ⟨b, off, none⟩ ∧ b < ((w.alloc (.cells #[.int .i64 0] 3)).alloc (.cells #[.int .i64 0] 40)).heap.size ∧ ((w.alloc (.cells #[.int .i64 0] 3)).alloc (.cells #[.int .i64 0] 40)).cell? ⟨b, off + j, none⟩ = some u from by
      obtain ⟨b, off, h1, h2, h3⟩ := hc2 j u hu
      exact ⟨b, off, h1, Nat.lt_of_lt_of_le h2 hb0.size, (hb0.cell (p := ⟨b, off + j, none⟩) h2).trans h3⟩)
  clear hc hc2
  cases hr : risesGo n cuts 0 0 with
  | none =>
    have hb := (rises_none n cuts 0 0).1 hr
    rw [hb]
    have HR := hid (rises_no n a2 n2 c2 cuts _ (by omega) (by omega) hn2 (by unfold maxLen; omega) hc2' hr)
    have HB := hid hb0
    have HB1 := hid B1
    have HB2 := hid B2
    clear hc' hc2' hr hb hb0 B1 B2 hz0 s1
    refine (callsIn_wide (n := 1)).1 ?_
    refine callsIn_of_wp_marks Try.func24 rfl trivial ?_ rfl
    simp only [Try.ntmps24, List.size_toArray, List.length_cons, List.length_nil, Nat.reduceAdd, Nat.reduceSub, Array.replicate_succ, Array.replicate_zero, List.push_toArray, List.append_toArray, List.nil_append, List.cons_append]
    gi_wp2_with (refine ⟨trivial, ?_⟩; refine (callsIn_wide.2 HR.out).mono ?_; rintro e w' ⟨rfl, rfl⟩)
    refine ⟨by simp, .inr ⟨fun h => (by simp [Fence.wide] at h), _, _, 33, #[.pointer (some ⟨w.heap.size + 1, 0, none⟩), .func (.func 37) #[] #[.pointer (some ⟨w.heap.size, 0, none⟩)]], rfl, by simp [go_sem], fun _ _ => trivial, ?_⟩⟩
    refine (caught_costIn _ ⟨w.heap.size + 1, 0, none⟩ ⟨w.heap.size, 0, none⟩ 0 0 _ (HB2.out.cell (k := 0) rfl) (HB2.out.frozen 0) (HB1.out.cell (k := 0) rfl) (HB1.out.frozen 0) (by simp)).mono ?_
    rintro e u' w'' ⟨rfl, rfl, rfl⟩
    refine ⟨_, ?_, rfl, (HB.out.setCell (Nat.le_refl _) _).setCell (Nat.le_succ _) _⟩
    simp [results, Try.results24, go_sem]
  | some x0 =>
    have hb : riseB n 0 cuts = true := by
      cases hb : riseB n 0 cuts with
      | true => rfl
      | false => rw [(rises_none n cuts 0 0).2 hb] at hr; cases hr
    rw [hb, if_pos rfl, if_pos rfl]
    have HR := hid (rises_ok n x0 a2 n2 c2 cuts _ (by omega) (by omega) hn2 (by unfold maxLen; omega) hc2' hr)
    have HP := hid (parts_any a a2 n c n2 c2 bs cuts _ hnb hn hNb hn2 hnc hac hnc2 hac2 hc' hc2')
    have HB := hid hb0
    have HB1 := hid B1
    have HB2 := hid B2
    have HRise := hid hb
    have HN := hid hn
    have HN2 := hid hn2
    have HZ := hid hz0
    have hbd := worthGo_bounds bs 0 (cuts ++ [(n : Int)])
    clear hc' hc2' hr hb hb0 B1 B2 hz0 s1 hn hn2
    refine (callsIn_wide (n := 1)).1 ?_
    refine callsIn_of_wp_marks Try.func24 rfl trivial ?_ rfl
    simp only [Try.ntmps24, List.size_toArray, List.length_cons, List.length_nil, Nat.reduceAdd, Nat.reduceSub, Array.replicate_succ, Array.replicate_zero, List.push_toArray, List.append_toArray, List.nil_append, List.cons_append]
    gi_wp2_with fail
    refine ⟨trivial, ?_⟩
    refine (callsIn_wide.2 HR.out).mono ?_
    rintro e w' ⟨rfl, rfl⟩
    gi_wp2_with fail
    refine ⟨trivial, ?_⟩
    refine (callsIn_wide.2 HP.out).mono ?_
    rintro e w3 ⟨p5, p6, rfl, hP, hb3⟩
    gi_wp2_with fail
    have hsz := HZ.out
    rw [hsz] at hP hb3
    have hs3 := hb3.size
    rw [hsz] at hs3
    have hb3' : Below ((w.alloc (.cells #[.int .i64 0] 3)).alloc (.cells #[.int .i64 0] 40)).heap.size ((w.alloc (.cells #[.int .i64 0] 3)).alloc (.cells #[.int .i64 0] 40)) w3 := by rw [hsz]; exact hb3
    have hI0 : IC w [] w3 := ⟨by simpa [sumP, dataP, wrap64] using HB1.out.below hb3' HB1.out.lt, HB2.out.below hb3' HB2.out.lt, HB.out.trans (hb3.mono (by omega))⟩
    clear hsz
    refine wpIn_rangeAd (gf := 43) (lb := #[.pointer (some ⟨p5, 0, none⟩), .pointer (some ⟨p6, 0, none⟩)]) rfl (enters_of Try.func43 (by kernel_rfl) rfl) (encs := encsP) (Ad := AdP) (Kp := KeepsBut (fun k => k = w.heap.size)) KeepsBut.trans (fun A o o' h ho => KeepsBut.put A _ o o' h ho)
      (parts_seq (fun k => k = w.heap.size) (w.heap.size + 1 + 1) p5 p6 n2 bs cuts w3 w3 (by rw [HN.out]; exact hNb) HN2.out hnb hP (Tr.refl _ _) (fun k h1 _ h2 => by omega)) (fun _ => rfl)
      (IC w) (fun _ _ _ => False) (IC_stays w _ (by omega)) (fun _ _ _ _ _ h _ _ => h) (AdP_stays _) hI0
      (fun x => { tmps := #[.slice a n c, .slice a2 n2 c2, undef, undef, .pointer (some ⟨w.heap.size, 0, none⟩), .pointer (some ⟨w.heap.size + 1, 0, none⟩), undef, x.2.1, .func (.func 37) #[] #[.pointer (some ⟨w.heap.size, 0, none⟩)], .slice a n c, .int .i64 n, .slice a2 n2 c2, .int .i64 x0, .slice a n c, .slice a2 n2 c2, .func (.func 43) #[] #[.pointer (some ⟨p5, 0, none⟩), .pointer (some ⟨p6, 0, none⟩)], .int .i64 x.1, x.2.1, undef, undef, undef, undef, undef], defers := [] }) ?assign ?body ?done ?stop
    case assign =>
      intro l x W K hK
      unfold encsP
      gi_wp2
      exact hK
    case body =>
      rintro l pre ⟨T, v, b⟩ W ⟨h1, h2, h3⟩ hAd _
      have hAd' : Sl W 1 v b.length (b.map bv) := hAd
      clear hAd
      obtain ⟨a', c', rfl, hlc, hcm, _, hcells⟩ := Sl.open hAd'
      have HS := hid (single_any a' b.length c' b W.drew rfl (Nat.le_trans hlc hcm) hcells)
      have hc0 := h1.cell (k := 0) rfl
      have hz0 := h1.frozen 0
      have hlt := h1.lt
      have hmx : Try.prog.follows .mixedOrders = true := by kernel_rfl
      have HI := hid (show ∀ w', Below W.drew.heap.size W.drew w' → IC w pre w' from fun w' hb0 => have hb : Below W.heap.size W w' := ⟨hb0.os, hb0.tape, hb0.output, hb0.size, hb0.block⟩; ⟨h1.below hb h1.lt, h2.below hb h2.lt, h3.trans (hb.mono h3.size)⟩)
      unfold iv at hc0
      clear hAd' hcells h1 h2 h3
      dsimp only
      gi_wp2
      gi_region_with_o (refine ⟨trivial, rfl, ?_⟩; refine (CallsIn.inRound l (callsIn_wide.2 HS.out)).mono ?_; rintro e w' ⟨rfl, hb⟩; have hcc := (hb.cell (p := ⟨w.heap.size, 0, none⟩) hlt).trans hc0; have hzz := (hb.frozen (p := ⟨w.heap.size, 0, none⟩) hlt).trans hz0)
      all_goals
        have hi := HI.out _ hb
        have hb' : Below W.heap.size W w' := ⟨hb.os, hb.tape, hb.output, hb.size, hb.block⟩
        exact ⟨(KeepsOthers.of_grownBy (grown_of_below hb') (fun _ _ e => by cases e)).trans (KeepsOthers.setCell _ _ _), (KeepsBut.below hb').trans (KeepsBut.set _ _ _ rfl), IC_next hi T _ b⟩
    case done =>
      rintro D xs W hD hS ⟨h1, h2, h3⟩ hK
      have c1 := h1.cell (k := 0) rfl
      have z1 := h1.frozen 0
      have c2' := h2.cell (k := 0) rfl
      have z2 := h2.frozen 0
      unfold iv at c1 c2'
      have H1 := hid h1
      have H2 := hid h2
      have H3 := hid h3
      have HK := hid hK
      have HD := hid hD
      clear h1 h2 h3 hK hD
      gi_wp2
      have b1 := (H1.out.set 0 (.int .i64 (wrap64 (sumP xs)))).other (a := ⟨w.heap.size + 1, 0, none⟩) (.int .i64 0) (by simp)
      have b2 := (H2.out.other (a := ⟨w.heap.size, 0, none⟩) (.int .i64 (wrap64 (sumP xs))) (by simp)).set 0 (.int .i64 0)
      have b3 := (H3.out.setCell (p := ⟨w.heap.size, 0, none⟩) (Nat.le_refl _) (.int .i64 (wrap64 (sumP xs)))).setCell (p := ⟨w.heap.size + 1, 0, none⟩) (Nat.le_succ _) (.int .i64 0)
      have hd := HD.out
      have hKf : ((W.setCell ⟨w.heap.size, 0, none⟩ (.int .i64 (wrap64 (sumP xs)))).setCell ⟨w.heap.size + 1, 0, none⟩ (.int .i64 0)).heap[D]? = some (.deferred (some [])) :=
        (Below.heap_setCell _ _ _ _ (by dsimp only; omega)).trans ((Below.heap_setCell _ _ _ _ (by dsimp only; omega)).trans HK.out)
      generalize (W.setCell ⟨w.heap.size, 0, none⟩ (.int .i64 (wrap64 (sumP xs)))).setCell ⟨w.heap.size + 1, 0, none⟩ (.int .i64 0) = W9 at *
      refine ⟨by simp, .inl ⟨_, _, rfl, run_takeDeferred hKf, ?_⟩⟩
      refine ⟨by simp, .inr ⟨fun h => (by simp [Fence.wide] at h), _, _, 33, #[.pointer (some ⟨w.heap.size + 1, 0, none⟩), .func (.func 37) #[] #[.pointer (some ⟨w.heap.size, 0, none⟩)]], rfl, by simp [go_sem], fun _ _ => trivial, ?_⟩⟩
      refine (caught_idleIn _ ⟨w.heap.size + 1, 0, none⟩ _ _).mono ?_
      rintro e u' w'' ⟨rfl, rfl, rfl⟩
      have k1 : ∀ o, Blk (W9.putObj D o) w.heap.size [.int .i64 (wrap64 (sumP xs))] 3 := fun o => (World.putObj_heap_other (by omega)).trans b1
      have k2 : ∀ o, Blk (W9.putObj D o) (w.heap.size + 1) [.int .i64 0] 40 := fun o => (World.putObj_heap_other (by omega)).trans b2
      have q1 := fun o => (k1 o).cell (k := 0) rfl
      have q2 := fun o => (k2 o).cell (k := 0) rfl
      have hv : wrap64 (sumP xs) = worthGo bs 0 (cuts ++ [(n : Int)]) := by
        have hS' : dataP xs = fullP bs cuts := hS
        have hw : sumP xs = worthGo bs 0 (cuts ++ [(n : Int)]) := by
          unfold sumP
          rw [hS']
          unfold fullP
          rw [HN.out]
          by_cases hn0 : n = 0
          · rw [if_neg (fun h => h.2 hn0)]
            have hbs : bs = [] := List.eq_nil_of_length_eq_zero (by rw [HN.out]; exact hn0)
            have hcs : cuts = [] := by
              have := HRise.out
              rw [hn0] at this
              cases hc : cuts with
              | nil => rfl
              | cons c r =>
                rw [hc, riseB] at this
                simp at this
                omega
            subst hbs hcs hn0
            rfl
          · rw [if_pos ⟨HRise.out, hn0⟩, worthGo_parts]
        rw [hw]
        have hl := worth_small bs cuts 0 (Nat.zero_le _) (by rw [HN.out]; exact HRise.out)
        rw [HN.out] at hl
        simp only [Nat.sub_zero, Int.natCast_zero] at hl
        simp only [wrap64]
        omega
      refine ⟨.tuple #[.int .i64 (wrap64 (sumP xs)), .int .i64 0], ?_, ?_, ?_⟩
      · simp [results, Try.results24, go_sem, q1, q2]
      · rw [hv]
      · exact b3.grown (grownBy_putObj' _ _ _) b3.size (fun k hk => by cases hk; omega)
    case stop =>
      rintro D c xs W _ _ h _
      exact h.elim
end Go.Proofs.Ytadnhjloeaddnaa
