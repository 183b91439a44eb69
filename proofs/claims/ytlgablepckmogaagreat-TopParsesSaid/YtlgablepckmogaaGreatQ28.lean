/-
  The walks of layer 29: the other methods of a finder; the reference's row of matches.
-/
import Derived.Test.YtlgablepckmogaaGreatQ09
import Derived.Test.YtlgablepckmogaaGreatQ02
import Derived.Test.YtlgablepckmogaaGreatQ07
import Derived.Test.YtlgablepckmogaaGreatQ03
import Derived.Test.YtlgablepckmogaaGreatQ05
import Derived.Test.YtlgablepckmogaaGreatQ27
import Derived.Test.YtlgablepckmogaaGreatQ08
import Derived.Laws.AppendOwnNone
import Derived.OwnWalkIn
import Derived.TacticsInMore
import Derived.LoopNIn
import Derived.LoopIn
import Derived.WalkMore
import Derived.Deep.RegionHeld3
namespace Go.Port
open Go.RowKit
theorem candL_wide (bs : List UInt8) (A : Nat) (W D p : Int) (hp : 0 ≤ D) : ((candL bs A W D p).length : Int) ≤ D := by
  unfold candL
  split
  · unfold candS
    split
    · exact (candGo_length (D := D)).2 hp
    · simp; exact hp
  · simp; exact hp
/-- The matches of increasing length at a position. -/
def allS (bs : List UInt8) (A : Nat) (W D p : Int) : List Sq := if 0 ≤ p ∧ p ≤ (bs.length : Int) - A then incS bs ((A : Int) + p) bs.length ((candL bs A W D p).map fun (q : Nat) => (q : Int)) else []
theorem incS_length (b : List UInt8) (pos most : Int) (frm : List Int) : (incS b pos most frm).length ≤ frm.length + 1 := by
  unfold incS
  exact riseGo_len _ _ _ _
theorem allS_length (bs : List UInt8) (A : Nat) (W D p : Int) (hD : 0 ≤ D) : ((allS bs A W D p).length : Int) ≤ D + 1 := by
  unfold allS
  split
  · have h1 := incS_length bs ((A : Int) + p) bs.length ((candL bs A W D p).map fun (q : Nat) => (q : Int))
    have h2 := candL_wide bs A W D p hD
    rw [List.length_map] at h1
    omega
  · simp; omega
/-- Sequences with their numbers. -/
def enumQ (l : List Sq) : List (Int × Sq) := l.zipIdx.map fun p => ((p.2 : Int), p.1)
theorem enumQ_snoc (l : List Sq) (x : Sq) : enumQ (l ++ [x]) = enumQ l ++ [((l.length : Int), x)] := by
  unfold enumQ
  rw [List.zipIdx_append, List.map_append]
  simp
theorem enumQ_take {l : List Sq} {k : Nat} {x : Sq} (h : l[k]? = some x) : enumQ (l.take (k + 1)) = enumQ (l.take k) ++ [((k : Int), x)] := by
  obtain ⟨h1, h2⟩ := List.getElem?_eq_some_iff.1 h
  rw [List.take_succ_eq_append_getElem h1, h2, enumQ_snoc, List.length_take, Nat.min_eq_left (Nat.le_of_lt h1)]
theorem enumQ_pre (l : List Sq) (k : Nat) : ∃ rest, enumQ (l.take k) ++ rest = enumQ l := by
  refine ⟨(enumQ l).drop k, ?_⟩
  have : enumQ (l.take k) = (enumQ l).take k := by
    unfold enumQ
    rw [← List.map_take]
    congr 1
    apply List.ext_getElem?
    intro j
    rw [List.getElem?_take, List.getElem?_zipIdx, List.getElem?_zipIdx, List.getElem?_take]
    split <;> rfl
  rw [this, List.take_append_drop]
theorem CellsAt.sub' {w : World} {b o : Nat} {bs : List UInt8} (h : CellsAt w (some ⟨b, o, none⟩) (bs.map bv)) (F : Nat) : CellsAt w (some ⟨b, o + F, none⟩) ((bs.drop F).map bv) := by
  intro j u hu
  obtain ⟨b2, o2, e1, e2, e3⟩ := h (F + j) u (by
    rw [List.getElem?_map] at hu ⊢
    rw [List.getElem?_drop] at hu
    exact hu)
  cases e1
  exact ⟨b, o + F, rfl, e2, by rw [Nat.add_assoc]; exact e3⟩
end Go.Port
namespace Go.Proofs.YtlgablepckmogaaGreat
open Go.RowKit Go.Port
set_option maxRecDepth 100000 in
set_option maxHeartbeats 400000 in
theorem bclone_any (a : Option Addr) (c : Nat) (bs : List UInt8) (w : World) (hnb : bs.length ≤ 1000000) (hnc : bs.length ≤ c) (hac : a = none → c = 0) (hc : CellsAt w a (bs.map bv)) :
    Calls Tryz.prog 30 #[.slice a bs.length c] w fun e w' => ∃ v, e = .returned v ∧ w'.ownsRow w.heap.size 5 1 v bs.length (bs.map bv) ∧ Below w.heap.size w w' := by
  cases a with
  | none =>
    have h0 : c = 0 := hac rfl
    have h1 : bs = [] := List.eq_nil_of_length_eq_zero (by omega)
    subst h0 h1
    have heq := fun (W : World) => Lib.run_eql_slice_nil (P := Tryz.prog) W 22 5 none 0 0 0 0 Tryz.underlying22
    go_enter Tryz.func30, Tryz.ntmps30
    go_wp2
    go_ret
    exact ⟨_, rfl, World.ownsRow_nil _ _ _ _, Below.refl _ _⟩
  | some ad =>
    have HC := hid (hc.low (below_new w (.cells #[] 5)))
    clear hc
    have heq := fun (W : World) => Lib.run_eql_slice_nil (P := Tryz.prog) W 22 5 (some ad) bs.length c 0 0 Tryz.underlying22
    go_enter Tryz.func30, Tryz.ntmps30
    go_wp2_with (at_builtin; refine Hid.out ?_)
    refine hid ?_
    refine wpList_appendsK rfl _ _ 22 rfl 5 _ 1 1 Tryz.underlying22 Tryz.info_byte rfl (by decide) (by decide) _ w.heap.size _ 0 bs.length c (some ad) [] (bs.map bv) (by simp) ?hu rfl rfl hnc (fun h => by cases h) (by exact HC.out) (own_emptyK 1 (Nat.le_refl _)) ?hn ?hb ?hk
    case hu =>
      intro u hu
      obtain ⟨x, _, rfl⟩ := List.mem_map.1 hu
      rfl
    case hn => omega
    case hb => simp
    case hk =>
      intro v' w' hown hg
      rw [List.nil_append, Nat.zero_add] at hown
      have HSl := hid hown
      have HB := hid ((below_new w (.cells #[] 5)).grown hg (by simp) (fun k hk => ((own_emptyK (e := 5) 1 (Nat.le_refl w.heap.size)).lt k hk).1))
      clear hown hg
      go_wp2
      go_ret
      exact ⟨_, rfl, HSl.out, HB.out⟩
theorem cwindow_any (bs : List UInt8) (A : Nat) (W D : Int) (F : Nat) (w : World) (h : FdAt 50 79 bs A W D F w) :
    Calls Tryz.prog 139 #[.pointer (some ⟨F, 0, none⟩)] w fun e w' => e = .returned (.int .i64 W) ∧ w = w' := by
  have HN := hid (cnone_any bs A W D F w h)
  obtain ⟨X, va, ca, h1, h2, h3, h4, h5⟩ := h.ex
  have c3 := h1.cell (k := 3) rfl
  clear h h1 h2 h3 h4 h5
  go_enter Tryz.func139, Tryz.ntmps139
  go_wp2_with (go_at_call 67; refine HN.out.mono ?_; rintro e w' ⟨rfl, rfl⟩)
  go_ret
  exact ⟨rfl, rfl⟩
set_option maxRecDepth 100000 in
set_option maxHeartbeats 4000000 in
theorem cdata_any (bs : List UInt8) (A : Nat) (W D : Int) (F : Nat) (w : World) (h : FdAt 50 79 bs A W D F w) :
    Calls Tryz.prog 43 #[.pointer (some ⟨F, 0, none⟩)] w fun e w' => ∃ v, e = .returned v ∧ w'.ownsRow w.heap.size 5 1 v (bs.length - A) ((bs.drop A).map bv) ∧ Below w.heap.size w w' := by
  have HN := hid (cnone_any bs A W D F w h)
  have hA := h.hA
  have hn := h.hn
  obtain ⟨X, va, ca, h1, h2, h3, h4, h5⟩ := h.ex
  have HF := hid h1
  have hdl : (bs.drop A).length = bs.length - A := List.length_drop
  have HD := hid hdl
  have hAI : (A : Int) ≤ (bs.length : Int) := by omega
  have hcI : (bs.length : Int) ≤ (ca : Int) := by omega
  clear h h1 h2
  go_enter Tryz.func43, Tryz.ntmps43
  go_wp2_with (go_at_call 67; refine HN.out.mono ?_; rintro e w' ⟨rfl, rfl⟩)
  clear HN
  by_cases hA0 : A = 0
  · subst hA0
    have HC := hid (bclone_any va ca bs w.drew hn h3 h4 (h5.low (Below.refl _ _).drew))
    clear hA hn h3 h4 h5 hdl HD
    refine wp_region_noPanic ?_
    refine wp_region_held_drew (S := fun W' => Below w.heap.size w W') (by kernel_rfl) (Below.refl _ _).drew (fun hHeld => ?_)
    refine wpAnyH_take (i := 0) (v := .pointer (some ⟨F, 0, none⟩)) (by simp only [List.getElem?_toArray, List.getElem?_cons_zero]; rfl) (by kernel_rfl) (by kernel_rfl) (by kernel_rfl) (fun _ _ _ h => h) (Or.inl ⟨by rfl, fun W hSw => ?_⟩) (by assumption) ?_
    · clear hSw
      go_simp
    simp only [Act.put, List.setIfInBounds_toArray, List.set_cons_zero, List.set_cons_succ]
    refine wpAnyH_take (i := 1) (v := .pointer (some ⟨F, 0, none⟩)) (by simp only [List.getElem?_toArray, List.getElem?_cons_zero, List.getElem?_cons_succ]; rfl) (by kernel_rfl) (by kernel_rfl) (by kernel_rfl) (fun _ _ _ h => h) (Or.inl ⟨by rfl, fun W hSw => ?_⟩) (by assumption) ?_
    · clear hSw
      go_simp
    simp only [Act.put, List.setIfInBounds_toArray, List.set_cons_zero, List.set_cons_succ]
    refine wpAnyH_take (i := 2) (v := .pointer (some ⟨F, 1, none⟩)) (by simp only [List.getElem?_toArray, List.getElem?_cons_zero, List.getElem?_cons_succ]; rfl) (by kernel_rfl) (by kernel_rfl) (by kernel_rfl) (fun _ _ _ h => h) (Or.inl ⟨by rfl, fun W hSw => ?_⟩) (by assumption) ?_
    · clear hSw
      go_simp
    simp only [Act.put, List.setIfInBounds_toArray, List.set_cons_zero, List.set_cons_succ]
    refine wpAnyH_take (i := 3) (v := .slice va bs.length ca) (by simp only [List.getElem?_toArray, List.getElem?_cons_zero, List.getElem?_cons_succ]; rfl) (by kernel_rfl) (by kernel_rfl) (by kernel_rfl) (fun _ _ _ h => h) (Or.inl ⟨by rfl, fun W hSw => ?_⟩) (by assumption) ?_
    · have hcw := (hSw.cell (p := ⟨F, 1, none⟩) HF.out.lt).trans (HF.out.cell (k := 1) rfl)
      go_simp
    simp only [Act.put, List.setIfInBounds_toArray, List.set_cons_zero, List.set_cons_succ]
    refine wpAnyH_take (i := 4) (v := .pointer (some ⟨F, 0, none⟩)) (by simp only [List.getElem?_toArray, List.getElem?_cons_zero, List.getElem?_cons_succ]; rfl) (by kernel_rfl) (by kernel_rfl) (by kernel_rfl) (fun _ _ _ h => h) (Or.inl ⟨by rfl, fun W hSw => ?_⟩) (by assumption) ?_
    · clear hSw
      go_simp
    simp only [Act.put, List.setIfInBounds_toArray, List.set_cons_zero, List.set_cons_succ]
    refine wpAnyH_take (i := 5) (v := .pointer (some ⟨F, 0, none⟩)) (by simp only [List.getElem?_toArray, List.getElem?_cons_zero, List.getElem?_cons_succ]; rfl) (by kernel_rfl) (by kernel_rfl) (by kernel_rfl) (fun _ _ _ h => h) (Or.inl ⟨by rfl, fun W hSw => ?_⟩) (by assumption) ?_
    · clear hSw
      go_simp
    simp only [Act.put, List.setIfInBounds_toArray, List.set_cons_zero, List.set_cons_succ]
    refine wpAnyH_take (i := 6) (v := .pointer (some ⟨F, 2, none⟩)) (by simp only [List.getElem?_toArray, List.getElem?_cons_zero, List.getElem?_cons_succ]; rfl) (by kernel_rfl) (by kernel_rfl) (by kernel_rfl) (fun _ _ _ h => h) (Or.inl ⟨by rfl, fun W hSw => ?_⟩) (by assumption) ?_
    · clear hSw
      go_simp
    simp only [Act.put, List.setIfInBounds_toArray, List.set_cons_zero, List.set_cons_succ]
    refine wpAnyH_take (i := 7) (v := .int .i64 ((0 : Nat) : Int)) (by simp only [List.getElem?_toArray, List.getElem?_cons_zero, List.getElem?_cons_succ]; rfl) (by kernel_rfl) (by kernel_rfl) (by kernel_rfl) (fun _ _ _ h => h) (Or.inl ⟨by rfl, fun W hSw => ?_⟩) (by assumption) ?_
    · have hcw := (hSw.cell (p := ⟨F, 2, none⟩) HF.out.lt).trans (HF.out.cell (k := 2) rfl)
      go_simp
    simp only [Act.put, List.setIfInBounds_toArray, List.set_cons_zero, List.set_cons_succ]
    refine wpAnyH_take (i := 8) (v := .slice va bs.length ca) (by simp only [List.getElem?_toArray, List.getElem?_cons_zero, List.getElem?_cons_succ]; rfl) (by kernel_rfl) (by kernel_rfl) (by kernel_rfl) (fun _ _ _ h => h) (Or.inl ⟨by rfl, fun W hSw => ?_⟩) (by assumption) ?_
    · clear hSw
      go_simp
    simp only [Act.put, List.setIfInBounds_toArray, List.set_cons_zero, List.set_cons_succ]
    refine wpAnyH_ready (rs := [9]) (by kernel_rfl) (by simp) ?_
    refine AllReadyH.cons (by simp only [List.getElem?_toArray, List.getElem?_cons_zero, List.getElem?_cons_succ]; rfl) (fun K hK => ?_) AllReadyH.nil
    rw [if_pos (by rfl)]
    go_simp
    go_at_call 30
    refine (HC.out).mono ?_
    rintro e w2 ⟨v, rfl, hown, hb2⟩
    have HB2 := hid ((show Below w.heap.size w w.drew from (Below.refl _ _).drew).trans hb2)
    have HO := hid (show w2.ownsRow w.heap.size 5 1 v bs.length (bs.map bv) from hown)
    dsimp only
    refine hK.out _ _ HB2.out (fun _ => ?_)
    clear hK K hown hb2
    obtain ⟨ao, co, rfl⟩ := own_slice HO.out
    refine wpAnyH_ready (rs := [10]) (by kernel_rfl) (by simp) ?_
    refine AllReadyH.cons (by simp only [List.getElem?_toArray, List.getElem?_cons_zero, List.getElem?_cons_succ]; rfl) (fun K hK => ?_) AllReadyH.nil
    rw [if_pos (by rfl)]
    go_simp
    refine hK.out _ _ HB2.out (fun _ => ?_)
    clear hK K
    refine wpAnyH_done (by kernel_rfl) ?_ _
    refine NoPanic.normal ?_
    go_wp2
    go_ret
    exact ⟨_, rfl, by rw [Nat.sub_zero, List.drop_zero]; exact HO.out, HB2.out⟩
  · have hpos : 0 < bs.length := by omega
    obtain ⟨vb, vo, rfl, hu1, hu2⟩ := h5 0 (bv (bs[0]'hpos)) (by simp [hpos])
    have h5' := h5.sub' A
    clear hu1 hu2 hpos
    by_cases hlt : A = ca
    · have hdn : bs.drop A = [] := List.eq_nil_of_length_eq_zero (by omega)
      have HC := hid (bclone_any (some ⟨vb, vo, none⟩) 0 [] w.drew (by simp) (by simp) (fun h => by cases h) (fun j u hu => by simp at hu))
      have he1 : ca = A := hlt.symm
      subst he1
      have HZ := hid (show bs.length - ca = 0 by omega)
      have HDn := hid hdn
      have hzz2 : ca - ca = 0 := Nat.sub_self _
      clear hA hn h3 h4 h5 h5' hdn hdl HD
      refine wp_region_noPanic ?_
      refine wp_region_held_drew (S := fun W' => Below w.heap.size w W') (by kernel_rfl) (Below.refl _ _).drew (fun hHeld => ?_)
      refine wpAnyH_take (i := 0) (v := .pointer (some ⟨F, 0, none⟩)) (by simp only [List.getElem?_toArray, List.getElem?_cons_zero]; rfl) (by kernel_rfl) (by kernel_rfl) (by kernel_rfl) (fun _ _ _ h => h) (Or.inl ⟨by rfl, fun W hSw => ?_⟩) (by assumption) ?_
      · clear hSw
        go_simp
      simp only [Act.put, List.setIfInBounds_toArray, List.set_cons_zero, List.set_cons_succ]
      refine wpAnyH_take (i := 1) (v := .pointer (some ⟨F, 0, none⟩)) (by simp only [List.getElem?_toArray, List.getElem?_cons_zero, List.getElem?_cons_succ]; rfl) (by kernel_rfl) (by kernel_rfl) (by kernel_rfl) (fun _ _ _ h => h) (Or.inl ⟨by rfl, fun W hSw => ?_⟩) (by assumption) ?_
      · clear hSw
        go_simp
      simp only [Act.put, List.setIfInBounds_toArray, List.set_cons_zero, List.set_cons_succ]
      refine wpAnyH_take (i := 2) (v := .pointer (some ⟨F, 1, none⟩)) (by simp only [List.getElem?_toArray, List.getElem?_cons_zero, List.getElem?_cons_succ]; rfl) (by kernel_rfl) (by kernel_rfl) (by kernel_rfl) (fun _ _ _ h => h) (Or.inl ⟨by rfl, fun W hSw => ?_⟩) (by assumption) ?_
      · clear hSw
        go_simp
      simp only [Act.put, List.setIfInBounds_toArray, List.set_cons_zero, List.set_cons_succ]
      refine wpAnyH_take (i := 3) (v := .slice (some ⟨vb, vo, none⟩) bs.length ca) (by simp only [List.getElem?_toArray, List.getElem?_cons_zero, List.getElem?_cons_succ]; rfl) (by kernel_rfl) (by kernel_rfl) (by kernel_rfl) (fun _ _ _ h => h) (Or.inl ⟨by rfl, fun W hSw => ?_⟩) (by assumption) ?_
      · have hcw := (hSw.cell (p := ⟨F, 1, none⟩) HF.out.lt).trans (HF.out.cell (k := 1) rfl)
        go_simp
      simp only [Act.put, List.setIfInBounds_toArray, List.set_cons_zero, List.set_cons_succ]
      refine wpAnyH_take (i := 4) (v := .pointer (some ⟨F, 0, none⟩)) (by simp only [List.getElem?_toArray, List.getElem?_cons_zero, List.getElem?_cons_succ]; rfl) (by kernel_rfl) (by kernel_rfl) (by kernel_rfl) (fun _ _ _ h => h) (Or.inl ⟨by rfl, fun W hSw => ?_⟩) (by assumption) ?_
      · clear hSw
        go_simp
      simp only [Act.put, List.setIfInBounds_toArray, List.set_cons_zero, List.set_cons_succ]
      refine wpAnyH_take (i := 5) (v := .pointer (some ⟨F, 0, none⟩)) (by simp only [List.getElem?_toArray, List.getElem?_cons_zero, List.getElem?_cons_succ]; rfl) (by kernel_rfl) (by kernel_rfl) (by kernel_rfl) (fun _ _ _ h => h) (Or.inl ⟨by rfl, fun W hSw => ?_⟩) (by assumption) ?_
      · clear hSw
        go_simp
      simp only [Act.put, List.setIfInBounds_toArray, List.set_cons_zero, List.set_cons_succ]
      refine wpAnyH_take (i := 6) (v := .pointer (some ⟨F, 2, none⟩)) (by simp only [List.getElem?_toArray, List.getElem?_cons_zero, List.getElem?_cons_succ]; rfl) (by kernel_rfl) (by kernel_rfl) (by kernel_rfl) (fun _ _ _ h => h) (Or.inl ⟨by rfl, fun W hSw => ?_⟩) (by assumption) ?_
      · clear hSw
        go_simp
      simp only [Act.put, List.setIfInBounds_toArray, List.set_cons_zero, List.set_cons_succ]
      refine wpAnyH_take (i := 7) (v := .int .i64 (ca : Int)) (by simp only [List.getElem?_toArray, List.getElem?_cons_zero, List.getElem?_cons_succ]; rfl) (by kernel_rfl) (by kernel_rfl) (by kernel_rfl) (fun _ _ _ h => h) (Or.inl ⟨by rfl, fun W hSw => ?_⟩) (by assumption) ?_
      · have hcw := (hSw.cell (p := ⟨F, 2, none⟩) HF.out.lt).trans (HF.out.cell (k := 2) rfl)
        go_simp
      simp only [Act.put, List.setIfInBounds_toArray, List.set_cons_zero, List.set_cons_succ]
      refine wpAnyH_take (i := 8) (v := .slice (some ⟨vb, vo, none⟩) 0 0) (by simp only [List.getElem?_toArray, List.getElem?_cons_zero, List.getElem?_cons_succ]; rfl) (by kernel_rfl) (by kernel_rfl) (by kernel_rfl) (fun _ _ _ h => h) (Or.inl ⟨by rfl, fun W hSw => ?_⟩) (by assumption) ?_
      · have hbl := HZ.out
        go_simp
      simp only [Act.put, List.setIfInBounds_toArray, List.set_cons_zero, List.set_cons_succ]
      refine wpAnyH_ready (rs := [9]) (by kernel_rfl) (by simp) ?_
      refine AllReadyH.cons (by simp only [List.getElem?_toArray, List.getElem?_cons_zero, List.getElem?_cons_succ]; rfl) (fun K hK => ?_) AllReadyH.nil
      rw [if_pos (by rfl)]
      go_simp
      go_at_call 30
      refine (HC.out).mono ?_
      rintro e w2 ⟨v, rfl, hown, hb2⟩
      have HB2 := hid ((show Below w.heap.size w w.drew from (Below.refl _ _).drew).trans hb2)
      have HO := hid (show w2.ownsRow w.heap.size 5 1 v (bs.length - ca) ((bs.drop ca).map bv) from by rw [HZ.out, HDn.out]; exact hown)
      dsimp only
      refine hK.out _ _ HB2.out (fun _ => ?_)
      clear hK K hown hb2
      obtain ⟨ao, co, rfl⟩ := own_slice HO.out
      refine wpAnyH_ready (rs := [10]) (by kernel_rfl) (by simp) ?_
      refine AllReadyH.cons (by simp only [List.getElem?_toArray, List.getElem?_cons_zero, List.getElem?_cons_succ]; rfl) (fun K hK => ?_) AllReadyH.nil
      rw [if_pos (by rfl)]
      go_simp
      refine hK.out _ _ HB2.out (fun _ => ?_)
      clear hK K
      refine wpAnyH_done (by kernel_rfl) ?_ _
      refine NoPanic.normal ?_
      go_wp2
      go_ret
      exact ⟨_, rfl, by first | exact HO.out | (rw [← List.map_drop]; exact HO.out), HB2.out⟩
    · have hlt2 : A < ca := by omega
      have HC := hid (bclone_any (some ⟨vb, vo + A, none⟩) (ca - A) (bs.drop A) w.drew (by omega) (by omega) (fun h => by cases h) (h5'.low (Below.refl _ _).drew))
      rw [hdl] at HC
      have hn1 : ¬ ca = A := by omega
      have hn2 : ¬ ca - A = 0 := by omega
      clear hA hn h3 h4 h5 h5' hdl HD hlt
      refine wp_region_noPanic ?_
      refine wp_region_held_drew (S := fun W' => Below w.heap.size w W') (by kernel_rfl) (Below.refl _ _).drew (fun hHeld => ?_)
      refine wpAnyH_take (i := 0) (v := .pointer (some ⟨F, 0, none⟩)) (by simp only [List.getElem?_toArray, List.getElem?_cons_zero]; rfl) (by kernel_rfl) (by kernel_rfl) (by kernel_rfl) (fun _ _ _ h => h) (Or.inl ⟨by rfl, fun W hSw => ?_⟩) (by assumption) ?_
      · clear hSw
        go_simp
      simp only [Act.put, List.setIfInBounds_toArray, List.set_cons_zero, List.set_cons_succ]
      refine wpAnyH_take (i := 1) (v := .pointer (some ⟨F, 0, none⟩)) (by simp only [List.getElem?_toArray, List.getElem?_cons_zero, List.getElem?_cons_succ]; rfl) (by kernel_rfl) (by kernel_rfl) (by kernel_rfl) (fun _ _ _ h => h) (Or.inl ⟨by rfl, fun W hSw => ?_⟩) (by assumption) ?_
      · clear hSw
        go_simp
      simp only [Act.put, List.setIfInBounds_toArray, List.set_cons_zero, List.set_cons_succ]
      refine wpAnyH_take (i := 2) (v := .pointer (some ⟨F, 1, none⟩)) (by simp only [List.getElem?_toArray, List.getElem?_cons_zero, List.getElem?_cons_succ]; rfl) (by kernel_rfl) (by kernel_rfl) (by kernel_rfl) (fun _ _ _ h => h) (Or.inl ⟨by rfl, fun W hSw => ?_⟩) (by assumption) ?_
      · clear hSw
        go_simp
      simp only [Act.put, List.setIfInBounds_toArray, List.set_cons_zero, List.set_cons_succ]
      refine wpAnyH_take (i := 3) (v := .slice (some ⟨vb, vo, none⟩) bs.length ca) (by simp only [List.getElem?_toArray, List.getElem?_cons_zero, List.getElem?_cons_succ]; rfl) (by kernel_rfl) (by kernel_rfl) (by kernel_rfl) (fun _ _ _ h => h) (Or.inl ⟨by rfl, fun W hSw => ?_⟩) (by assumption) ?_
      · have hcw := (hSw.cell (p := ⟨F, 1, none⟩) HF.out.lt).trans (HF.out.cell (k := 1) rfl)
        go_simp
      simp only [Act.put, List.setIfInBounds_toArray, List.set_cons_zero, List.set_cons_succ]
      refine wpAnyH_take (i := 4) (v := .pointer (some ⟨F, 0, none⟩)) (by simp only [List.getElem?_toArray, List.getElem?_cons_zero, List.getElem?_cons_succ]; rfl) (by kernel_rfl) (by kernel_rfl) (by kernel_rfl) (fun _ _ _ h => h) (Or.inl ⟨by rfl, fun W hSw => ?_⟩) (by assumption) ?_
      · clear hSw
        go_simp
      simp only [Act.put, List.setIfInBounds_toArray, List.set_cons_zero, List.set_cons_succ]
      refine wpAnyH_take (i := 5) (v := .pointer (some ⟨F, 0, none⟩)) (by simp only [List.getElem?_toArray, List.getElem?_cons_zero, List.getElem?_cons_succ]; rfl) (by kernel_rfl) (by kernel_rfl) (by kernel_rfl) (fun _ _ _ h => h) (Or.inl ⟨by rfl, fun W hSw => ?_⟩) (by assumption) ?_
      · clear hSw
        go_simp
      simp only [Act.put, List.setIfInBounds_toArray, List.set_cons_zero, List.set_cons_succ]
      refine wpAnyH_take (i := 6) (v := .pointer (some ⟨F, 2, none⟩)) (by simp only [List.getElem?_toArray, List.getElem?_cons_zero, List.getElem?_cons_succ]; rfl) (by kernel_rfl) (by kernel_rfl) (by kernel_rfl) (fun _ _ _ h => h) (Or.inl ⟨by rfl, fun W hSw => ?_⟩) (by assumption) ?_
      · clear hSw
        go_simp
      simp only [Act.put, List.setIfInBounds_toArray, List.set_cons_zero, List.set_cons_succ]
      refine wpAnyH_take (i := 7) (v := .int .i64 (A : Int)) (by simp only [List.getElem?_toArray, List.getElem?_cons_zero, List.getElem?_cons_succ]; rfl) (by kernel_rfl) (by kernel_rfl) (by kernel_rfl) (fun _ _ _ h => h) (Or.inl ⟨by rfl, fun W hSw => ?_⟩) (by assumption) ?_
      · have hcw := (hSw.cell (p := ⟨F, 2, none⟩) HF.out.lt).trans (HF.out.cell (k := 2) rfl)
        go_simp
      simp only [Act.put, List.setIfInBounds_toArray, List.set_cons_zero, List.set_cons_succ]
      refine wpAnyH_take (i := 8) (v := .slice (some ⟨vb, vo + A, none⟩) (bs.length - A) (ca - A)) (by simp only [List.getElem?_toArray, List.getElem?_cons_zero, List.getElem?_cons_succ]; rfl) (by kernel_rfl) (by kernel_rfl) (by kernel_rfl) (fun _ _ _ h => h) (Or.inl ⟨by rfl, fun W hSw => ?_⟩) (by assumption) ?_
      · clear hSw
        go_simp
      simp only [Act.put, List.setIfInBounds_toArray, List.set_cons_zero, List.set_cons_succ]
      refine wpAnyH_ready (rs := [9]) (by kernel_rfl) (by simp) ?_
      refine AllReadyH.cons (by simp only [List.getElem?_toArray, List.getElem?_cons_zero, List.getElem?_cons_succ]; rfl) (fun K hK => ?_) AllReadyH.nil
      rw [if_pos (by rfl)]
      go_simp
      go_at_call 30
      refine (HC.out).mono ?_
      rintro e w2 ⟨v, rfl, hown, hb2⟩
      have HB2 := hid ((show Below w.heap.size w w.drew from (Below.refl _ _).drew).trans hb2)
      have HO := hid (show w2.ownsRow w.heap.size 5 1 v (bs.length - A) ((bs.drop A).map bv) from hown)
      dsimp only
      refine hK.out _ _ HB2.out (fun _ => ?_)
      clear hK K hown hb2
      obtain ⟨ao, co, rfl⟩ := own_slice HO.out
      refine wpAnyH_ready (rs := [10]) (by kernel_rfl) (by simp) ?_
      refine AllReadyH.cons (by simp only [List.getElem?_toArray, List.getElem?_cons_zero, List.getElem?_cons_succ]; rfl) (fun K hK => ?_) AllReadyH.nil
      rw [if_pos (by rfl)]
      go_simp
      refine hK.out _ _ HB2.out (fun _ => ?_)
      clear hK K
      refine wpAnyH_done (by kernel_rfl) ?_ _
      refine NoPanic.normal ?_
      go_wp2
      go_ret
      exact ⟨_, rfl, by first | exact HO.out | (rw [← List.map_drop]; exact HO.out), HB2.out⟩
end Go.Proofs.YtlgablepckmogaaGreat
