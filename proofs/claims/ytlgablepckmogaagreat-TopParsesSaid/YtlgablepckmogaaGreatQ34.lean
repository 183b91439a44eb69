/-
  The walks of layer 33 (best): the plan of a table, ParseFrom, MinCost, ParseModel.
  The walks of layer 33 (best): absent finders and cost models.
-/
import Derived.Test.YtlgablepckmogaaGreatQ33
import Derived.Test.YtlgablepckmogaaGreatQ32
import Derived.LoopIn
import Derived.Deep.LoopGhost
import Derived.ScopeJumps
import Derived.WalkMore
import Derived.OwnWalkIn
import Derived.TacticsInMore
import Derived.LoopNIn
namespace Go.Port
open Go.RowKit
/-- The table of a finder and a cost model. -/
def chF (bs : List UInt8) (A : Nat) (Wd D : Int) : Int → List Sq := fun i => bSteps (allS bs A Wd D i)
def tabF (C : Nat → List Int) (bs : List UInt8) (A : Nat) (Wd D : Int) : List (Sq × Int) := tab C (bs.drop A) (chF bs A Wd D) (bs.drop A).length (bs.drop A).length
theorem tabF_length (C : Nat → List Int) (bs : List UInt8) (A : Nat) (Wd D : Int) : (tabF C bs A Wd D).length = (bs.drop A).length := tab_length _ _ _ _ _
/-- The first matches of a table lie in the data. -/
def TabWf (t : List (Sq × Int)) : Prop := ∀ (j : Nat) (x : Sq × Int), t[j]? = some x → x.1.len = 0 ∨ (3 ≤ x.1.len ∧ (j : Int) + x.1.len ≤ t.length)
theorem tab_wf {C : Nat → List Int} {data : List UInt8} {ch : Int → List Sq} {n : Nat} (hch : Choices n ch) : ∀ r, r ≤ n → TabWf (tab C data ch n r) := by
  intro r
  induction r with
  | zero => intro _ j x h; simp [tab] at h
  | succ r ih =>
    intro hr j x h
    have hl := tab_length C data ch n r
    cases j with
    | zero =>
      have h : some (leastP (ofS C data (n - (r + 1)) (tab C data ch n r)) ⟨0, 0, 0⟩ (ch ((n - (r + 1) : Nat) : Int))) = some x := h
      simp only [Option.some.injEq] at h
      rcases (leastP_all (ofS C data (n - (r + 1)) (tab C data ch n r)) ⟨0, 0, 0⟩ (ch ((n - (r + 1) : Nat) : Int))).1 with h1 | h1
      · left; rw [← h, h1]
      · right
        rw [h] at h1
        obtain ⟨h2, h3, h4, h5, _⟩ := hch.inn _ _ h1
        refine ⟨h4, ?_⟩
        rw [tab_length]
        omega
    | succ j =>
      have h : (tab C data ch n r)[j]? = some x := h
      rcases ih (by omega) j x h with h1 | ⟨h1, h2⟩
      · exact .inl h1
      · refine .inr ⟨h1, ?_⟩
        rw [hl] at h2
        rw [tab_length]
        omega
theorem planT_at {t : List (Sq × Int)} {p : Nat} {s : Sq} {v : Int} (h : t[p]? = some (s, v)) (k : Int) : planT (t.drop p) 0 k = if s.len = 0 then planT (t.drop (p + 1)) 0 (k + 1) else ⟨k, s.len, s.off⟩ :: planT (t.drop (p + 1 + (s.len - 1).toNat)) 0 0 := by
  obtain ⟨h1, h2⟩ := List.getElem?_eq_some_iff.1 h
  rw [List.drop_eq_getElem_cons h1, h2]
  simp only [planT]
  split
  · rfl
  · rw [planT_drop, List.drop_drop]
theorem planT_len : ∀ (t : List (Sq × Int)) (k : Nat) (lit : Int), (planT t k lit).length ≤ t.length := by
  intro t
  induction t with
  | nil => intro k lit; cases k <;> exact Nat.le_refl _
  | cons x r ih =>
    intro k lit
    obtain ⟨s, v⟩ := x
    cases k with
    | zero =>
      simp only [planT]
      split
      · have := ih 0 (lit + 1); simp only [List.length_cons]; omega
      · have := ih (s.len - 1).toNat 0; simp only [List.length_cons]; omega
    | succ k => simp only [planT]; have := ih k lit; simp only [List.length_cons]; omega
end Go.Port
namespace Go.Proofs.YtlgablepckmogaaGreat
open Go.RowKit Go.Port
attribute [local go_sem] Oper.semAt_some
/-- A table that was made. -/
structure TabR (W : World) (T gc gf : Nat) (t : List (Sq × Int)) : Prop where
  row : Blk W T [.slice (some ⟨gc, 0, none⟩) (t.length + 1) (t.length + 1), .slice (some ⟨gf, 0, none⟩) t.length t.length] 166
  c : Blk W gc ((costsL t).map iv) 3
  f : Blk W gf ((t.map (·.1)).flatMap sqc) 43
theorem TabR.low {W W' : World} {T gc gf : Nat} {t : List (Sq × Int)} (h : TabR W T gc gf t) (hb : Below W.heap.size W W') : TabR W' T gc gf t := ⟨h.row.below hb h.row.lt, h.c.below hb h.c.lt, h.f.below hb h.f.lt⟩
set_option maxRecDepth 1000000 in
set_option maxHeartbeats 4000000 in
theorem bplan_any (T gc gf : Nat) (t : List (Sq × Int)) (w : World) (h : TabR w T gc gf t) (hwf : TabWf t) (hn : t.length ≤ 1000000) (p0 : Nat) (hp0 : p0 ≤ t.length) :
    Calls Tryz.prog 85 #[.pointer (some ⟨T, 0, none⟩), .int .i64 (p0 : Int)] w fun e w' => ∃ v, e = .returned v ∧ w'.ownsRow w.heap.size 43 3 v (planT (t.drop p0) 0 0).length ((planT (t.drop p0) 0 0).flatMap sqc) ∧ Below w.heap.size w w' := by
  obtain ⟨n, hnn⟩ : ∃ n, t.length = n := ⟨_, rfl⟩
  have HT := hid (fun W (hb : Below w.heap.size w W) => show W.cell? ⟨T, 1, none⟩ = some (.slice (some ⟨gf, 0, none⟩) n n) ∧ T < W.heap.size from by
    rw [← hnn]
    exact ⟨(h.low hb).row.cell (k := 1) rfl, (h.low hb).row.lt⟩)
  have HF := hid (fun W (hb : Below w.heap.size w W) j (x : Sq × Int) (hx : t[j]? = some x) => show W.cell? ⟨gf, j * 3, none⟩ = some (.int .i64 x.1.lit) ∧ W.cell? ⟨gf, j * 3 + 1, none⟩ = some (.int .i64 x.1.len) ∧ W.cell? ⟨gf, j * 3 + 2, none⟩ = some (.int .i64 x.1.off) from by
    have hf := (h.low hb).f
    have hm : (t.map (·.1))[j]? = some x.1 := by rw [List.getElem?_map, hx]; rfl
    exact ⟨hf.cell (by have := sqc_get hm 0 (by omega); rwa [Nat.add_zero] at this), hf.cell (by rw [sqc_get hm 1 (by omega)]; rfl), hf.cell (by rw [sqc_get hm 2 (by omega)]; rfl)⟩)
  obtain ⟨L, hL⟩ : ∃ L, planT (t.drop p0) 0 0 = L := ⟨_, rfl⟩
  have hLl := planT_len (t.drop p0) 0 0
  rw [hL] at hLl ⊢
  rw [List.length_drop] at hLl
  have HL := hid hL
  have HLl := hid (show L.length ≤ 1000000 by omega)
  have HW := hid (show ∀ (j : Nat) (x : Sq × Int), t[j]? = some x → x.1.len = 0 ∨ (3 ≤ x.1.len ∧ (j : Int) + x.1.len ≤ n) from by rw [← hnn]; exact hwf)
  have HN := hid hnn
  rw [hnn] at hn hp0
  clear h hwf hL hLl hnn
  go_enter Tryz.func85, Tryz.ntmps85
  go_wp2
  go_loopg [1, 4, 5] (n - p0) (fun gk a o l wr => ∃ (p k : Nat) (pre : List Sq), gk = n - p ∧ p ≤ n ∧ k ≤ p ∧ a = .int .i64 (p : Int) ∧ l = .int .i64 (k : Int) ∧ Hid (pre ++ planT (t.drop p) 0 k = L) ∧ wr.ownsRow w.heap.size 43 3 o pre.length (pre.flatMap sqc) ∧ Hid (Below w.heap.size w wr))
  case atStart => exact ⟨p0, 0, [], rfl, hp0, Nat.zero_le _, rfl, rfl, hid HL.out, World.ownsRow_nil _ _ _ _, hid (Below.refl _ _)⟩
  case round =>
    obtain ⟨p, k, pre, hgk, hp, hkp, rfl, rfl, HI, hown, HB⟩ := hrel
    have HG := hid hgk
    obtain ⟨oa, oc, rfl⟩ := own_slice hown
    have HO := hid hown
    obtain ⟨cT, hTlt⟩ := HT.out wr HB.out
    clear hgk hown
    by_cases hlt : p < n
    · obtain ⟨⟨⟨sl, sn, so⟩, v⟩, hx⟩ : ∃ x, t[p]? = some x := ⟨t[p]'(by have := HN.out; omega), by simp⟩
      obtain ⟨f0, f1, f2⟩ := HF.out wr HB.out p _ hx
      dsimp only at f0 f1 f2
      have hpa := planT_at hx (k : Int)
      dsimp only at hpa
      have hwf := HW.out p _ hx
      dsimp only at hwf
      have hltI : (p : Int) < (n : Int) := by omega
      clear hx
      by_cases hs : sn = 0
      · rw [if_pos hs] at hpa
        subst hs
        have HN2 := hid (show pre ++ planT (t.drop (p + 1)) 0 ((k + 1 : Nat) : Int) = L from by rw [show (((k + 1 : Nat)) : Int) = (k : Int) + 1 from by omega, ← hpa]; exact HI.out)
        have HO2 := hid (HO.out.alloc (.cells #[.int .i64 sl, .int .i64 0, .int .i64 so] 43))
        have HB2 := hid (HB.out.alloc HB.out.size (.cells #[.int .i64 sl, .int .i64 0, .int .i64 so] 43))
        have hw1 : IntKind.i64.wrap ((k : Int) + 1) = (k : Int) + 1 := by rw [IntKind.wrap_i64]; omega
        have hw2 : IntKind.i64.wrap ((p : Int) + 1) = (p : Int) + 1 := by rw [IntKind.wrap_i64]; omega
        clear hpa hwf
        go_wp2
        go_roundg (n - (p + 1))
        case rel => exact ⟨p + 1, k + 1, pre, rfl, hlt, by omega, by go_num, by go_num, HN2, HO2.out, HB2⟩
        case measure => have := HG.out; omega
      · rw [if_neg hs] at hpa
        obtain ⟨S, hS⟩ : ∃ S : Nat, sn = (S : Int) := ⟨sn.toNat, by omega⟩
        subst hS
        have hS3 : 3 ≤ S := by omega
        have hSp : p + S ≤ n := by omega
        rw [show p + 1 + ((S : Int) - 1).toNat = p + S from by omega] at hpa
        have hpl : (pre ++ [(⟨(k : Int), (S : Int), so⟩ : Sq)]) ++ planT (t.drop (p + S)) 0 ((0 : Nat) : Int) = L := by
          rw [List.append_assoc]
          show pre ++ (⟨(k : Int), (S : Int), so⟩ :: planT (t.drop (p + S)) 0 0) = L
          rw [← hpa]
          exact HI.out
        have HN2 := hid hpl
        have hprl : pre.length ≤ 1000000 := by
          have := HLl.out
          rw [← hpl, List.length_append, List.length_append] at this
          omega
        have HO2 := hid (HO.out.alloc (.cells #[.int .i64 (k : Int), .int .i64 (S : Int), .int .i64 so] 43))
        have HB2 := hid (HB.out.alloc HB.out.size (.cells #[.int .i64 (k : Int), .int .i64 (S : Int), .int .i64 so] 43))
        have hw2 : IntKind.i64.wrap ((p : Int) + (S : Int)) = (p : Int) + (S : Int) := by rw [IntKind.wrap_i64]; omega
        have hS0 : ¬ (S : Int) = 0 := by omega
        have hSz : ¬ S = 0 := by omega
        clear hpa hpl hwf hs
        go_wp2_with (at_builtin; refine Hid.out ?_)
        refine hid ?_
        refine wpList_append1 rfl _ _ 28 rfl 43 _ 3 24 Tryz.underlying28 Tryz.info_seq rfl (by decide) (by decide) _ w.heap.size _ pre.length _ [.int .i64 (k : Int), .int .i64 (S : Int), .int .i64 so] rfl ?hu rfl ?hx (by exact HO2.out) ?hn (by exact HB2.out.size) ?hk
        case hx => exact congrArg (fun z => Value.slice (some ⟨z, 0, none⟩) 1 1) (show wr.heap.size + 1 = _ by simp)
        case hu => simp [Value.oneCell']
        case hn => omega
        case hk =>
          intro v' w7 hown' hg
          have HB7 := hid (HB2.out.grown hg HB2.out.size (fun k hk => (HO2.out.lt k hk).1))
          have HO7 := hid hown'
          clear hown' hg
          go_wp2
          go_roundg (n - (p + S))
          case rel =>
            refine ⟨p + S, 0, pre ++ [⟨(k : Int), (S : Int), so⟩], rfl, hSp, Nat.zero_le _, by go_num, by simp, HN2, ?_, HB7⟩
            rw [List.length_append, List.flatMap_append]
            exact HO7.out
          case measure => have := HG.out; omega
    · obtain rfl : p = n := by omega
      have hL : pre = L := by
        have := HI.out
        rw [List.drop_of_length_le (by have := HN.out; omega)] at this
        simpa [planT] using this
      subst hL
      go_wp2
      go_ret
      exact ⟨_, rfl, HO.out, HB.out⟩
set_option maxRecDepth 100000 in
theorem btab_r (bs : List UInt8) (A : Nat) (Wd D : Int) (F M : Nat) (C : Nat → List Int) (w : World) (hf : FdAt 50 79 bs A Wd D F w) (hp : PrAt w M C) (hch : Choices (bs.drop A).length (chF bs A Wd D)) :
    Calls Tryz.prog 84 #[.pointer (some ⟨F, 0, none⟩), .pointer (some ⟨M, 0, none⟩)] w fun e w' => ∃ T gc gf, e = .returned (.tuple #[.pointer (some ⟨T, 0, none⟩), .int .i64 0]) ∧ Below w.heap.size w w' ∧ w.heap.size ≤ T ∧ w.heap.size ≤ gc ∧ TabR w' T gc gf (tabF C bs A Wd D) := by
  refine (btabled_ok bs A Wd D F M C w hf hp hch).mono ?_
  rintro e w' ⟨T, gc, gf, h1, h2, h3, h4, h5, h6, h7, h8⟩
  refine ⟨T, gc, gf, h1, h2, h3, h4, ?_, h7, h8⟩
  rw [tabF_length]
  exact h6
theorem tabF_wf (C : Nat → List Int) {bs : List UInt8} {A : Nat} {Wd D : Int} (hch : Choices (bs.drop A).length (chF bs A Wd D)) : TabWf (tabF C bs A Wd D) := tab_wf hch _ (Nat.le_refl _)
set_option maxRecDepth 1000000 in
set_option maxHeartbeats 4000000 in
theorem bpf_ok (bs : List UInt8) (A : Nat) (Wd D : Int) (F M : Nat) (C : Nat → List Int) (w : World) (hf : FdAt 50 79 bs A Wd D F w) (hp : PrAt w M C) (hch : Choices (bs.drop A).length (chF bs A Wd D)) (p : Nat) (hpn : p ≤ (bs.drop A).length) :
    Calls Tryz.prog 58 #[.pointer (some ⟨F, 0, none⟩), .pointer (some ⟨M, 0, none⟩), .int .i64 (p : Int)] w fun e w' => ∃ v, e = .returned (.tuple #[.int .i64 (costAt (tabF C bs A Wd D) p), v, .int .i64 0]) ∧ w'.ownsRow w.heap.size 43 3 v (planT ((tabF C bs A Wd D).drop p) 0 0).length ((planT ((tabF C bs A Wd D).drop p) 0 0).flatMap sqc) ∧ Below w.heap.size w w' := by
  have HTa := hid (btab_r bs A Wd D F M C w hf hp hch)
  have HLe := hid (fun W (hb : Below w.heap.size w W) => clen_any bs A Wd D F W (hf.low hb))
  have hn := hf.hn
  have hA := hf.hA
  have hwf := tabF_wf C hch
  have hlt : (tabF C bs A Wd D).length ≤ 1000000 := by rw [tabF_length, List.length_drop]; omega
  have hpl : p ≤ (tabF C bs A Wd D).length := by rw [tabF_length]; exact hpn
  have hdl : (bs.drop A).length = bs.length - A := List.length_drop
  have hle : ¬ (bs.length : Int) - (A : Int) < (p : Int) := by omega
  have HPl := hid (fun T gc gf W (h : TabR W T gc gf (tabF C bs A Wd D)) => bplan_any T gc gf (tabF C bs A Wd D) W h hwf hlt p hpl)
  have hp0 : ¬ (p : Int) < 0 := by omega
  have hcp : ((costsL (tabF C bs A Wd D)).map iv)[p]? = some (.int .i64 (costAt (tabF C bs A Wd D) p)) := by
    unfold costAt
    rw [List.getElem?_map, List.getD_eq_getElem?_getD, List.getElem?_eq_getElem (by rw [costsL_length]; omega)]
    rfl
  have HCp := hid hcp
  have hpI : (p : Int) < ((tabF C bs A Wd D).length : Int) + 1 := by omega
  clear hf hp hch hn hA hwf hlt hpn hdl hcp
  generalize (tabF C bs A Wd D) = t at *
  obtain ⟨n, hnn⟩ : ∃ n, t.length = n := ⟨_, rfl⟩
  have HN := hid hnn
  rw [hnn] at hpI hpl
  clear hnn
  go_enter Tryz.func58, Tryz.ntmps58
  go_wp2_with fail
  refine HTa.out.mono ?_
  rintro e w2 ⟨T, gc, gf, rfl, hb2, hT, hc, hR⟩
  have HB2 := hid hb2
  have HR := hid hR
  have HTw := hid hT
  clear hb2 hT hc hR
  go_wp2_with fail
  refine (HLe.out _ HB2.out).mono ?_
  rintro e w3 ⟨rfl, m, rfl⟩
  have HB3 := hid (show Below w2.heap.size w2 (w2.drewN m) from below_drewN (Below.refl _ _) m)
  have HR3 := hid (HR.out.low HB3.out)
  generalize w2.drewN m = w3 at *
  go_wp2_with fail
  refine wp_region_noPanic ?_
  refine wp_region_held_drew (S := (fun W' => Below w3.heap.size w3 W')) (by kernel_rfl) (Below.refl _ _).drew (fun hHeld => ?_)
  refine wpAnyH_take (i := 0) (v := .pointer (some ⟨T, 0, none⟩)) (by simp only [List.getElem?_toArray, List.getElem?_cons_zero]; rfl) (by kernel_rfl) (by kernel_rfl) (by kernel_rfl) (fun _ _ _ h => h) (Or.inl ⟨by rfl, fun W hSw => ?_⟩) (by assumption) ?_
  · clear hSw
    go_simp
  simp only [Act.put, List.setIfInBounds_toArray, List.set_cons_zero, List.set_cons_succ]
  refine wpAnyH_take (i := 1) (v := .pointer (some ⟨T, 0, none⟩)) (by simp only [List.getElem?_toArray, List.getElem?_cons_zero, List.getElem?_cons_succ]; rfl) (by kernel_rfl) (by kernel_rfl) (by kernel_rfl) (fun _ _ _ h => h) (Or.inl ⟨by rfl, fun W hSw => ?_⟩) (by assumption) ?_
  · have hT := HR3.out.low hSw
    clear hSw
    have cc := hT.row.lt
    clear hT
    go_simp
  simp only [Act.put, List.setIfInBounds_toArray, List.set_cons_zero, List.set_cons_succ]
  refine wpAnyH_take (i := 2) (v := .pointer (some ⟨T, 0, none⟩)) (by simp only [List.getElem?_toArray, List.getElem?_cons_zero, List.getElem?_cons_succ]; rfl) (by kernel_rfl) (by kernel_rfl) (by kernel_rfl) (fun _ _ _ h => h) (Or.inl ⟨by rfl, fun W hSw => ?_⟩) (by assumption) ?_
  · clear hSw
    go_simp
  simp only [Act.put, List.setIfInBounds_toArray, List.set_cons_zero, List.set_cons_succ]
  refine wpAnyH_take (i := 3) (v := .pointer (some ⟨T, 0, none⟩)) (by simp only [List.getElem?_toArray, List.getElem?_cons_zero, List.getElem?_cons_succ]; rfl) (by kernel_rfl) (by kernel_rfl) (by kernel_rfl) (fun _ _ _ h => h) (Or.inl ⟨by rfl, fun W hSw => ?_⟩) (by assumption) ?_
  · clear hSw
    go_simp
  simp only [Act.put, List.setIfInBounds_toArray, List.set_cons_zero, List.set_cons_succ]
  refine wpAnyH_take (i := 4) (v := .slice (some ⟨gc, 0, none⟩) (n + 1) (n + 1)) (by simp only [List.getElem?_toArray, List.getElem?_cons_zero, List.getElem?_cons_succ]; rfl) (by kernel_rfl) (by kernel_rfl) (by kernel_rfl) (fun _ _ _ h => h) (Or.inl ⟨by rfl, fun W hSw => ?_⟩) (by assumption) ?_
  · have hT := HR3.out.low hSw
    clear hSw
    have cc := hT.row.cell (k := 0) rfl
    rw [HN.out] at cc
    clear hT
    go_simp
  simp only [Act.put, List.setIfInBounds_toArray, List.set_cons_zero, List.set_cons_succ]
  refine wpAnyH_take (i := 5) (v := .int .i64 (p : Int)) (by simp only [List.getElem?_toArray, List.getElem?_cons_zero, List.getElem?_cons_succ]; rfl) (by kernel_rfl) (by kernel_rfl) (by kernel_rfl) (fun _ _ _ h => h) (Or.inl ⟨by rfl, fun W hSw => ?_⟩) (by assumption) ?_
  · clear hSw
    go_simp
  simp only [Act.put, List.setIfInBounds_toArray, List.set_cons_zero, List.set_cons_succ]
  refine wpAnyH_take (i := 6) (v := .pointer (some ⟨gc, p, none⟩)) (by simp only [List.getElem?_toArray, List.getElem?_cons_zero, List.getElem?_cons_succ]; rfl) (by kernel_rfl) (by kernel_rfl) (by kernel_rfl) (fun _ _ _ h => h) (Or.inl ⟨by rfl, fun W hSw => ?_⟩) (by assumption) ?_
  · clear hSw
    go_simp
  simp only [Act.put, List.setIfInBounds_toArray, List.set_cons_zero, List.set_cons_succ]
  refine wpAnyH_take (i := 7) (v := .int .i64 (costAt t p)) (by simp only [List.getElem?_toArray, List.getElem?_cons_zero, List.getElem?_cons_succ]; rfl) (by kernel_rfl) (by kernel_rfl) (by kernel_rfl) (fun _ _ _ h => h) (Or.inl ⟨by rfl, fun W hSw => ?_⟩) (by assumption) ?_
  · have hT := HR3.out.low hSw
    clear hSw
    have cc := hT.c.cell HCp.out
    clear hT
    go_simp
  simp only [Act.put, List.setIfInBounds_toArray, List.set_cons_zero, List.set_cons_succ]
  refine wpAnyH_take (i := 8) (v := .pointer (some ⟨T, 0, none⟩)) (by simp only [List.getElem?_toArray, List.getElem?_cons_zero, List.getElem?_cons_succ]; rfl) (by kernel_rfl) (by kernel_rfl) (by kernel_rfl) (fun _ _ _ h => h) (Or.inl ⟨by rfl, fun W hSw => ?_⟩) (by assumption) ?_
  · clear hSw
    go_simp
  simp only [Act.put, List.setIfInBounds_toArray, List.set_cons_zero, List.set_cons_succ]
  refine wpAnyH_take (i := 9) (v := .pointer (some ⟨T, 0, none⟩)) (by simp only [List.getElem?_toArray, List.getElem?_cons_zero, List.getElem?_cons_succ]; rfl) (by kernel_rfl) (by kernel_rfl) (by kernel_rfl) (fun _ _ _ h => h) (Or.inl ⟨by rfl, fun W hSw => ?_⟩) (by assumption) ?_
  · have hT := HR3.out.low hSw
    clear hSw
    have cc := hT.row.lt
    clear hT
    go_simp
  simp only [Act.put, List.setIfInBounds_toArray, List.set_cons_zero, List.set_cons_succ]
  refine wpAnyH_take (i := 10) (v := .pointer (some ⟨T, 0, none⟩)) (by simp only [List.getElem?_toArray, List.getElem?_cons_zero, List.getElem?_cons_succ]; rfl) (by kernel_rfl) (by kernel_rfl) (by kernel_rfl) (fun _ _ _ h => h) (Or.inl ⟨by rfl, fun W hSw => ?_⟩) (by assumption) ?_
  · clear hSw
    go_simp
  simp only [Act.put, List.setIfInBounds_toArray, List.set_cons_zero, List.set_cons_succ]
  refine wpAnyH_take (i := 11) (v := .int .i64 (p : Int)) (by simp only [List.getElem?_toArray, List.getElem?_cons_zero, List.getElem?_cons_succ]; rfl) (by kernel_rfl) (by kernel_rfl) (by kernel_rfl) (fun _ _ _ h => h) (Or.inl ⟨by rfl, fun W hSw => ?_⟩) (by assumption) ?_
  · clear hSw
    go_simp
  simp only [Act.put, List.setIfInBounds_toArray, List.set_cons_zero, List.set_cons_succ]
  refine wpAnyH_ready (rs := [12]) (by kernel_rfl) (by simp) ?_
  refine AllReadyH.cons (by simp only [List.getElem?_toArray, List.getElem?_cons_zero, List.getElem?_cons_succ]; rfl) (fun K hK => ?_) AllReadyH.nil
  rw [if_pos (by rfl)]
  go_simp
  go_at_call 85
  refine (HPl.out T gc gf _ (HR3.out.low (Below.refl _ _).drew)).mono ?_
  rintro e w4 ⟨v, rfl, hown, hb4⟩
  obtain ⟨av, cv, rfl⟩ := own_slice hown
  dsimp only
  have HB4 := hid (show Below w3.heap.size w3 w4 from (Below.refl w3.heap.size w3).drew.trans hb4)
  have HO4 := hid (show w4.ownsRow w3.heap.size 43 3 (.slice av (planT (t.drop p) 0 0).length cv) (planT (t.drop p) 0 0).length ((planT (t.drop p) 0 0).flatMap sqc) from hown)
  refine hK.out _ _ HB4.out (fun _ => ?_)
  clear hK K hown hb4
  refine wpAnyH_ready (rs := [13]) (by kernel_rfl) (by simp) ?_
  refine AllReadyH.cons (by simp only [List.getElem?_toArray, List.getElem?_cons_zero, List.getElem?_cons_succ]; rfl) (fun K hK => ?_) AllReadyH.nil
  rw [if_pos (by rfl)]
  go_simp
  refine hK.out _ _ HB4.out (fun _ => ?_)
  clear hK K
  refine wpAnyH_ready (rs := [14]) (by kernel_rfl) (by simp) ?_
  refine AllReadyH.cons (by simp only [List.getElem?_toArray, List.getElem?_cons_zero, List.getElem?_cons_succ]; rfl) (fun K hK => ?_) AllReadyH.nil
  rw [if_pos (by rfl)]
  go_simp
  refine hK.out _ _ HB4.out (fun _ => ?_)
  clear hK K
  refine wpAnyH_ready (rs := [15]) (by kernel_rfl) (by simp) ?_
  refine AllReadyH.cons (by simp only [List.getElem?_toArray, List.getElem?_cons_zero, List.getElem?_cons_succ]; rfl) (fun K hK => ?_) AllReadyH.nil
  rw [if_pos (by rfl)]
  go_simp
  refine hK.out _ _ HB4.out (fun _ => ?_)
  clear hK K
  refine wpAnyH_done (by kernel_rfl) ?_ _
  refine NoPanic.normal ?_
  go_wp2
  have hs2 := HB2.out.size
  have hs3 := HB3.out.size
  refine bodyPost_ret (v := .tuple #[.int .i64 (costAt t p), .slice av (planT (t.drop p) 0 0).length cv, .int .i64 0]) (by simp [results, Tryz.results58, go_sem]) rfl ?_
  exact ⟨_, rfl, own_le HO4.out (by omega), HB2.out.trans ((HB3.out.trans (HB4.out.mono hs3)).mono hs2)⟩
set_option maxRecDepth 100000 in
theorem bpm_ok (bs : List UInt8) (A : Nat) (Wd D : Int) (F M : Nat) (C : Nat → List Int) (w : World) (hf : FdAt 50 79 bs A Wd D F w) (hp : PrAt w M C) (hch : Choices (bs.drop A).length (chF bs A Wd D)) :
    Calls Tryz.prog 41 #[.pointer (some ⟨F, 0, none⟩), .pointer (some ⟨M, 0, none⟩)] w fun e w' => ∃ v, e = .returned (.tuple #[v, .int .i64 0]) ∧ w'.ownsRow w.heap.size 43 3 v (planT (tabF C bs A Wd D) 0 0).length ((planT (tabF C bs A Wd D) 0 0).flatMap sqc) ∧ Below w.heap.size w w' := by
  have HPf := hid ((bpf_ok bs A Wd D F M C w hf hp hch 0 (Nat.zero_le _)))
  have HPf := hid (show Calls Tryz.prog 58 #[.pointer (some ⟨F, 0, none⟩), .pointer (some ⟨M, 0, none⟩), .int .i64 0] w _ from HPf.out)
  clear hf hp hch
  go_enter Tryz.func41, Tryz.ntmps41
  go_wp2_with fail
  refine HPf.out.mono ?_
  rintro e w2 ⟨v, rfl, hown, hb2⟩
  obtain ⟨av, cv, rfl⟩ := own_slice hown
  have HB2 := hid hb2
  have HO2 := hid hown
  clear hb2 hown
  go_wp2
  refine bodyPost_ret (v := .tuple #[.slice av (planT (tabF C bs A Wd D) 0 0).length cv, .int .i64 0]) (by simp [results, Tryz.results41, go_sem]) rfl ?_
  exact ⟨_, rfl, HO2.out, HB2.out⟩
end Go.Proofs.YtlgablepckmogaaGreat
namespace Go.Proofs.YtlgablepckmogaaGreat
open Go.RowKit Go.Port
theorem NoFd.low {p : Option Addr} {w w' : World} (h : NoFd p w) (hb : Below w.heap.size w w') : NoFd p w' := by
  rcases h with h | ⟨F, h1, h2⟩
  · exact .inl h
  · exact .inr ⟨F, h1, h2.below hb h2.lt⟩
end Go.Proofs.YtlgablepckmogaaGreat
