/-
  The walks of layer 29: all matches of increasing length at a position, iterated over; the reference's.
-/
import Derived.Test.YtlgablepckmogaaGreatQ28
namespace Go.Proofs.YtlgablepckmogaaGreat
open Go.RowKit Go.Port
attribute [local go_sem] Oper.semAt_some
set_option maxRecDepth 100000 in
set_option maxHeartbeats 4000000 in
theorem call_at (bs : List UInt8) (A : Nat) (W D : Int) (F : Nat) (p : Int) (w : World) (h : FdAt 50 79 bs A W D F w) :
    Calls Tryz.prog 145 #[.pointer (some ⟨F, 0, none⟩), .int .i64 p] w fun e w' => ∃ g a c, e = .returned (.func (.func 164) #[] #[.pointer (some ⟨g, 0, none⟩)]) ∧ w.heap.size ≤ g ∧ Blk w' g [.slice a (allS bs A W D p).length c] 28 ∧ CellsAt w' a ((allS bs A W D p).flatMap sqc) ∧ (allS bs A W D p).length ≤ c ∧ Below w.heap.size w w' ∧ ∀ x, a = some x → w.heap.size ≤ x.block := by
  have hmf : ∀ (fn : Fn) (first cap : Array Value) (w : World), (Instr.makeFunc fn first cap).run Tryz.prog w = .ok (.func fn first cap) w := fun _ _ _ _ => rfl
  have hb0 := below_new w (.cells #[.slice none 0 0] 28)
  have HG0 := hid (Blk.new w [.slice none 0 0] 28)
  have HB0 := hid hb0
  have HOw := hid (cown_any bs A W D F p _ (h.low hb0))
  have HFd := hid (fun W' hW' => (h.low hW' : FdAt 50 79 bs A W D F W'))
  have hn := h.hn
  have hD := h.hD
  have hFlt := h.lt
  by_cases hp : 0 ≤ p ∧ p ≤ (bs.length : Int) - A
  · have hS : allS bs A W D p = incS bs ((A : Int) + p) bs.length ((candL bs A W D p).map fun (q : Nat) => (q : Int)) := by unfold allS; rw [if_pos hp]
    rw [if_pos hp] at HOw
    rw [hS]
    have hcl := candL_length bs A W D p
    have hcw := candL_wide bs A W D p (by omega)
    have HCa := hid (fun W' hW' => ccand_any bs A W D F p W' (h.low hW'))
    have HIn := hid (fun a c a2 c2 W' hbc hc hc2 => increasing_any a a2 c c2 bs ((A : Int) + p) bs.length ((candL bs A W D p).map fun (q : Nat) => (q : Int)) W' hn hbc (by rw [List.length_map]; omega) hc hc2)
    rw [List.length_map] at HIn
    have hmm : (((candL bs A W D p).map fun (q : Nat) => (q : Int)).map iv) = (candL bs A W D p).map natI := by rw [List.map_map]; rfl
    rw [hmm] at HIn
    generalize incS bs ((A : Int) + p) bs.length ((candL bs A W D p).map fun (q : Nat) => (q : Int)) = R at *
    generalize candL bs A W D p = L at *
    clear h hn hD hp hS hcl hcw hmm hb0
    go_enter Tryz.func145, Tryz.ntmps145
    go_wp2_with fail
    refine HOw.out.mono ?_
    rintro e w' ⟨rfl, m, rfl⟩
    have HG1 : Hid (Blk ((w.alloc (.cells #[.slice none 0 0] 28)).drewN m) w.heap.size [.slice none 0 0] 28) := HG0
    have HB1 := hid (below_drewN HB0.out m)
    clear HG0 HB0
    generalize (w.alloc (.cells #[.slice none 0 0] 28)).drewN m = w1 at *
    have hFd := HFd.out w1 HB1.out
    obtain ⟨X, va, ca, f1, f2, f3, f4, f5⟩ := hFd.ex
    have HF := hid f1
    have HC := hid f5
    have HGl := hid HG1.out.lt
    have HFne := hid (show F ≠ w.heap.size from Nat.ne_of_lt hFlt)
    clear f1 f2 f4 f5 hFd
    go_wp2_with fail
    refine wp_region_noPanic ?_
    refine wp_region_held_drew (S := fun W' => Below w.heap.size w W' ∧ Blk W' F [.pointer (some ⟨X, 0, none⟩), .slice va bs.length ca, .int .i64 (A : Int), .int .i64 W, .int .i64 D] 50) (by kernel_rfl) ⟨HB1.out.drew, HF.out⟩ (fun hHeld => ?_)
    refine wpAnyH_take (i := 0) (v := .pointer (some ⟨F, 0, none⟩)) (by simp only [List.getElem?_toArray, List.getElem?_cons_zero]; rfl) (by kernel_rfl) (by kernel_rfl) (by kernel_rfl) (fun _ _ _ h => h) (Or.inl ⟨by rfl, fun W hSw => ?_⟩) (by assumption) ?_
    · clear hSw
      go_simp
    simp only [Act.put, List.setIfInBounds_toArray, List.set_cons_zero, List.set_cons_succ]
    refine wpAnyH_take (i := 1) (v := .pointer (some ⟨F, 0, none⟩)) (by simp only [List.getElem?_toArray, List.getElem?_cons_zero, List.getElem?_cons_succ]; rfl) (by kernel_rfl) (by kernel_rfl) (by kernel_rfl) (fun _ _ _ h => h) (Or.inl ⟨by rfl, fun W hSw => ?_⟩) (by assumption) ?_
    · clear hSw
      go_simp
    simp only [Act.put, List.setIfInBounds_toArray, List.set_cons_zero, List.set_cons_succ]
    refine wpAnyH_take (i := 2) (v := .pointer (some ⟨F, 1, none⟩)) (by simp only [List.getElem?_toArray, List.getElem?_cons_zero, List.getElem?_cons_succ]; rfl) (by kernel_rfl) (by kernel_rfl) (by kernel_rfl) (fun _ _ _ h => h) (Or.inl ⟨by rfl, fun W hSw => ?_⟩) (by assumption) ?_
    · clear hSw
      go_simp
    simp only [Act.put, List.setIfInBounds_toArray, List.set_cons_zero, List.set_cons_succ]
    refine wpAnyH_take (i := 3) (v := .slice va bs.length ca) (by simp only [List.getElem?_toArray, List.getElem?_cons_zero, List.getElem?_cons_succ]; rfl) (by kernel_rfl) (by kernel_rfl) (by kernel_rfl) (fun _ _ _ h => h) (Or.inl ⟨by rfl, fun W hSw => ?_⟩) (by assumption) ?_
    · have hcw := hSw.2.cell (k := 1) rfl
      go_simp
    simp only [Act.put, List.setIfInBounds_toArray, List.set_cons_zero, List.set_cons_succ]
    refine wpAnyH_take (i := 4) (v := .int .i64 ((A : Int) + p)) (by simp only [List.getElem?_toArray, List.getElem?_cons_zero, List.getElem?_cons_succ]; rfl) (by kernel_rfl) (by kernel_rfl) (by kernel_rfl) (fun _ _ _ h => h) (Or.inl ⟨by rfl, fun W hSw => ?_⟩) (by assumption) ?_
    · clear hSw
      go_simp
    simp only [Act.put, List.setIfInBounds_toArray, List.set_cons_zero, List.set_cons_succ]
    refine wpAnyH_take (i := 5) (v := .pointer (some ⟨F, 0, none⟩)) (by simp only [List.getElem?_toArray, List.getElem?_cons_zero, List.getElem?_cons_succ]; rfl) (by kernel_rfl) (by kernel_rfl) (by kernel_rfl) (fun _ _ _ h => h) (Or.inl ⟨by rfl, fun W hSw => ?_⟩) (by assumption) ?_
    · clear hSw
      go_simp
    simp only [Act.put, List.setIfInBounds_toArray, List.set_cons_zero, List.set_cons_succ]
    refine wpAnyH_take (i := 6) (v := .pointer (some ⟨F, 0, none⟩)) (by simp only [List.getElem?_toArray, List.getElem?_cons_zero, List.getElem?_cons_succ]; rfl) (by kernel_rfl) (by kernel_rfl) (by kernel_rfl) (fun _ _ _ h => h) (Or.inl ⟨by rfl, fun W hSw => ?_⟩) (by assumption) ?_
    · clear hSw
      go_simp
    simp only [Act.put, List.setIfInBounds_toArray, List.set_cons_zero, List.set_cons_succ]
    refine wpAnyH_take (i := 7) (v := .pointer (some ⟨F, 1, none⟩)) (by simp only [List.getElem?_toArray, List.getElem?_cons_zero, List.getElem?_cons_succ]; rfl) (by kernel_rfl) (by kernel_rfl) (by kernel_rfl) (fun _ _ _ h => h) (Or.inl ⟨by rfl, fun W hSw => ?_⟩) (by assumption) ?_
    · clear hSw
      go_simp
    simp only [Act.put, List.setIfInBounds_toArray, List.set_cons_zero, List.set_cons_succ]
    refine wpAnyH_take (i := 8) (v := .slice va bs.length ca) (by simp only [List.getElem?_toArray, List.getElem?_cons_zero, List.getElem?_cons_succ]; rfl) (by kernel_rfl) (by kernel_rfl) (by kernel_rfl) (fun _ _ _ h => h) (Or.inl ⟨by rfl, fun W hSw => ?_⟩) (by assumption) ?_
    · have hcw := hSw.2.cell (k := 1) rfl
      go_simp
    simp only [Act.put, List.setIfInBounds_toArray, List.set_cons_zero, List.set_cons_succ]
    refine wpAnyH_take (i := 9) (v := .int .i64 (bs.length : Int)) (by simp only [List.getElem?_toArray, List.getElem?_cons_zero, List.getElem?_cons_succ]; rfl) (by kernel_rfl) (by kernel_rfl) (by kernel_rfl) (fun _ _ _ h => h) (Or.inl ⟨by rfl, fun W hSw => ?_⟩) (by assumption) ?_
    · clear hSw
      go_simp
    simp only [Act.put, List.setIfInBounds_toArray, List.set_cons_zero, List.set_cons_succ]
    refine wpAnyH_take (i := 10) (v := .pointer (some ⟨F, 0, none⟩)) (by simp only [List.getElem?_toArray, List.getElem?_cons_zero, List.getElem?_cons_succ]; rfl) (by kernel_rfl) (by kernel_rfl) (by kernel_rfl) (fun _ _ _ h => h) (Or.inl ⟨by rfl, fun W hSw => ?_⟩) (by assumption) ?_
    · clear hSw
      go_simp
    simp only [Act.put, List.setIfInBounds_toArray, List.set_cons_zero, List.set_cons_succ]
    refine wpAnyH_take (i := 11) (v := .int .i64 p) (by simp only [List.getElem?_toArray, List.getElem?_cons_zero, List.getElem?_cons_succ]; rfl) (by kernel_rfl) (by kernel_rfl) (by kernel_rfl) (fun _ _ _ h => h) (Or.inl ⟨by rfl, fun W hSw => ?_⟩) (by assumption) ?_
    · clear hSw
      go_simp
    simp only [Act.put, List.setIfInBounds_toArray, List.set_cons_zero, List.set_cons_succ]
    refine wpAnyH_ready (rs := [12]) (by kernel_rfl) (by simp) ?_
    refine AllReadyH.cons (by simp only [List.getElem?_toArray, List.getElem?_cons_zero, List.getElem?_cons_succ]; rfl) (fun K hK => ?_) AllReadyH.nil
    rw [if_pos (by rfl)]
    go_simp
    go_at_call 127
    refine (HCa.out _ HB1.out.drew).mono ?_
    rintro e w2 ⟨v, rfl, hown, hb2⟩
    obtain ⟨av, cv, rfl⟩ := own_slice hown
    have HB2 := hid ((show Below w1.heap.size w1 w1.drew from (Below.refl _ _).drew).trans hb2)
    have HL2 := hid ((Sl.of_owns hown).cells' rfl)
    dsimp only
    refine hK.out _ _ ⟨HB1.out.trans (HB2.out.mono HB1.out.size), HF.out.below HB2.out HF.out.lt⟩ (fun _ => ?_)
    clear hK K hown hb2
    refine wpAnyH_ready (rs := [13]) (by kernel_rfl) (by simp) ?_
    refine AllReadyH.cons (by simp only [List.getElem?_toArray, List.getElem?_cons_zero, List.getElem?_cons_succ]; rfl) (fun K hK => ?_) AllReadyH.nil
    rw [if_pos (by rfl)]
    go_simp
    go_at_call 163
    refine (HIn.out va ca av cv w2 f3 (HC.out.low HB2.out) HL2.out).mono ?_
    rintro e w3 ⟨v, rfl, hown, hb3⟩
    obtain ⟨ar, cr, rfl⟩ := own_slice hown
    have HB3 := hid (HB2.out.trans (hb3.mono HB2.out.size))
    have HR3 := hid ((Sl.of_owns hown).cells' rfl)
    have HRc := hid ((Sl.of_owns hown).cap rfl)
    have HO3 := hid hown
    dsimp only
    refine hK.out _ _ ⟨HB1.out.trans (HB3.out.mono HB1.out.size), HF.out.below HB3.out HF.out.lt⟩ (fun _ => ?_)
    clear hK K hown hb3
    have hg3 := HG1.out.below HB3.out HG1.out.lt
    have y0 := hg3.cell (k := 0) rfl
    have z0 := hg3.frozen 0
    have HG9 := hid (hg3.set 0 (.slice ar R.length cr))
    have hno : (Value.slice ar R.length cr).ownBlock ≠ some w.heap.size := fun e => by
      have h1 := (HO3.out.lt _ e).1
      have h2 := HGl.out
      have h3 := HB2.out.size
      omega
    have HR9 := hid ((Sl.of_owns (ownsRow_setCell_other HO3.out (a := ⟨w.heap.size, 0, none⟩) hno (.slice ar R.length cr))).cells' rfl)
    have HB9 := hid ((HB1.out.trans (HB3.out.mono HB1.out.size)).setCell (p := ⟨w.heap.size, 0, none⟩) (Nat.le_refl _) (.slice ar R.length cr))
    refine wpAnyH_ready (rs := [14]) (by kernel_rfl) (by simp) ?_
    refine AllReadyH.cons (by simp only [List.getElem?_toArray, List.getElem?_cons_zero, List.getElem?_cons_succ]; rfl) (fun K hK => ?_) AllReadyH.nil
    rw [if_pos (by rfl)]
    go_simp
    refine hK.out _ _ ⟨HB9.out, (HF.out.below HB3.out HF.out.lt).other (a := ⟨w.heap.size, 0, none⟩) (.slice ar R.length cr) (Ne.symm HFne.out)⟩ (fun _ => ?_)
    clear hK K
    refine wpAnyH_done (by kernel_rfl) ?_ _
    refine NoPanic.normal ?_
    clear y0 z0
    go_wp2
    go_ret
    refine ⟨_, _, _, rfl, Nat.le_refl _, HG9.out, HR9.out, HRc.out.1, HB9.out, fun x hx => ?_⟩
    have h1 := (HO3.out.lt x.block (by rw [hx]; rfl)).1
    have h3 := HB2.out.size
    have h4 := HB1.out.size
    omega
  · have hS : allS bs A W D p = [] := by unfold allS; rw [if_neg hp]
    rw [if_neg hp] at HOw
    rw [hS]
    clear h hn hD hp hS hb0 HFd hFlt
    go_enter Tryz.func145, Tryz.ntmps145
    go_wp2_with fail
    refine HOw.out.mono ?_
    rintro e w' ⟨rfl, m, rfl⟩
    have HG1 : Hid (Blk ((w.alloc (.cells #[.slice none 0 0] 28)).drewN m) w.heap.size [.slice none 0 0] 28) := HG0
    have HB1 := hid (below_drewN HB0.out m)
    clear HG0 HB0
    generalize (w.alloc (.cells #[.slice none 0 0] 28)).drewN m = w1 at *
    go_wp2
    go_ret
    exact ⟨_, none, 0, rfl, Nat.le_refl _, HG1.out, fun j u hu => by simp at hu, Nat.le_refl _, HB1.out, fun x hx => by cases hx⟩
set_option maxRecDepth 100000 in
set_option maxHeartbeats 4000000 in
theorem call1_seq (X : Nat → Prop) (T : TypeId → Bool) (p : Nat) (a : Option Addr) (c : Nat) (l : List Sq) (w0 : World) (hl : l.length ≤ 100000) (hp : X p) (hb : w0.cell? ⟨p, 0, none⟩ = some (.slice a l.length c))
    (hc : ∀ j u, (l.flatMap sqc)[j]? = some u → ∃ b off, a = some ⟨b, off, none⟩ ∧ X b ∧ w0.cell? ⟨b, off + j, none⟩ = some u) :
    SeqSt Tryz.prog 164 #[.pointer (some ⟨p, 0, none⟩)] encsP (fun xs => xs = enumQ l) (fun xs => ∃ rest, xs ++ rest = enumQ l) X T w0 := by
  intro lp J Jx W hW hJ hJx hY hJ0
  have hT0 : TrX X w0 W := TrX.low hW
  have hpW := hT0 _ _ (show X (⟨p, 0, none⟩ : Addr).block from hp) hb
  have HC := hid (fun (W' : World) (hT : TrX X w0 W') j u hu => (show ∃ b off, a = some ⟨b, off, none⟩ ∧ b < W'.heap.size ∧ W'.cell? ⟨b, off + j, none⟩ = some u from by
    obtain ⟨b, off, e, hb, hc⟩ := hc j u hu
    have := hT ⟨b, off + j, none⟩ u hb hc
    exact ⟨b, off, e, World.block_lt_of_cell? W' _ this, this⟩))
  have HY := hid hY
  have HJ := hid hJ
  have hT := hT0
  clear hc hY hT0 hb hJx hJ
  refine callsIn_of_wp Tryz.func164 rfl trivial ?_ rfl
  simp only [Tryz.ntmps164, List.size_toArray, List.length_cons, List.length_nil, Nat.reduceAdd, Nat.reduceSub, Array.replicate_succ, Array.replicate_zero, List.push_toArray, List.append_toArray, List.nil_append, List.cons_append]
  gi_wp2
  refine wpIn_wide.2 (wp_scope_straight ((wpIn_wide (n := 0)).1 ?_))
  gi_wp2
  refine wpIn_label ?_
  gi_wp2
  gi_loopw [7] (fun i wr => ∃ (k : Nat), k ≤ l.length ∧ i = .int .i64 k ∧ J (enumQ (l.take k)) wr ∧ TrX X w0 wr) (fun i _ => l.length - (intOf i).toNat)
  case atStart => exact ⟨0, Nat.zero_le _, rfl, hJ0, hT⟩
  case round =>
    obtain ⟨k, hk, rfl, hJk, hTr⟩ := hrel
    by_cases hlt : k < l.length
    · obtain ⟨x, hx⟩ : ∃ x, l[k]? = some x := ⟨l[k], by simp [hlt]⟩
      obtain ⟨bl, off, rfl, hb0, c0⟩ := HC.out wr hTr (k * 3 + 0) (.int .i64 x.lit) (by rw [sqc_get hx 0 (by omega)]; rfl)
      obtain ⟨_, _, e1, _, c1⟩ := HC.out wr hTr (k * 3 + 1) (.int .i64 x.len) (by rw [sqc_get hx 1 (by omega)]; rfl)
      cases e1
      obtain ⟨_, _, e2, _, c2⟩ := HC.out wr hTr (k * 3 + 2) (.int .i64 x.off) (by rw [sqc_get hx 2 (by omega)]; rfl)
      cases e2
      rw [Nat.add_zero] at c0
      rw [← Nat.add_assoc] at c1 c2
      have HST := hid (enumQ_take hx)
      have HPre := hid (enumQ_pre l (k + 1))
      have HT := hid (hTr.trans (TrX.low (below_new wr (.cells (sqc x).toArray 43))))
      have HJk := hid (StaysC.low HJ.out hJk (below_new wr (.cells (sqc x).toArray 43)))
      have HK := hid hlt
      clear hx hTr hJk hk hlt
      have tk : (k : Int) < (l.length : Int) := by have := HK.out; omega
      obtain ⟨fn, tmps, assign, body, hy, hRy⟩ := HY.out (enumQ (l.take k)) ((k : Int), x) _ HJk.out (by rw [← HST.out]; exact HPre.out)
      have hy2 : (Instr.yield lp #[.int .i64 (k : Int), .agg #[.int .i64 x.lit, .int .i64 x.len, .int .i64 x.off]]).run Tryz.prog (wr.alloc (.cells #[.int .i64 x.lit, .int .i64 x.len, .int .i64 x.off] 43)) = .ok (.round lp fn tmps assign body) (wr.alloc (.cells #[.int .i64 x.lit, .int .i64 x.len, .int .i64 x.off] 43)) := hy
      have HRy := hid hRy
      clear hy hRy
      gi_wp2
      refine ⟨rfl, HRy.out.mono ?_⟩
      rintro e w2 ⟨hkp, (⟨rfl, hJ2⟩ | ⟨rfl, hJx2⟩)⟩
      · gi_wp2
        go_roundw
        case rel =>
          refine ⟨k + 1, HK.out, by go_num, ?_, HT.out.trans (TrX.of_keeps hkp)⟩
          rw [HST.out]
          exact hJ2
        case measure =>
          have := HK.out
          simp [intOf]; omega
      · have HE := hid (show ∃ rest, (enumQ (l.take k) ++ [((k : Int), x)]) ++ rest = enumQ l from by rw [← HST.out]; exact HPre.out)
        gi_wp2
        simp only [Exit.noGoto_normal]
        refine bodyPost_end (results_none rfl _ _ _) rfl ?_
        exact ⟨⟨_, rfl⟩, .inr ⟨_, HE.out, hJx2⟩⟩
    · obtain rfl : k = l.length := by omega
      rw [List.take_of_length_le (Nat.le_refl _)] at hJk
      gi_wp2
      simp only [Exit.noGoto_normal]
      refine bodyPost_end (results_none rfl _ _ _) rfl ?_
      exact ⟨⟨_, rfl⟩, .inl ⟨_, rfl, hJk⟩⟩
end Go.Proofs.YtlgablepckmogaaGreat
