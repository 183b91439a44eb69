/-
  The walks of layer 33 (best): the candidate matches at an index.
-/
import Derived.Test.YtlgablepckmogaaGreatQ31
import Derived.Test.YtlgablepckmogaaGreatQ26
import Derived.Sort.LoopGhostIn
import Derived.OwnWalkIn
import Derived.TacticsInMore
import Derived.LoopIn
import Derived.WalkMore
namespace Go.Proofs.YtlgablepckmogaaGreat
open Go.RowKit Go.Port
attribute [local go_sem] Oper.semAt_some
theorem enumQ_snd (l : List Sq) : (enumQ l).map (·.2) = l := by
  unfold enumQ
  rw [List.map_map]
  apply List.ext_getElem?
  intro j
  rw [List.getElem?_map]
  by_cases h : j < l.length
  · rw [List.getElem?_eq_getElem (by simpa using h), List.getElem?_eq_getElem h]
    simp
  · rw [List.getElem?_eq_none (by simpa using Nat.le_of_not_lt h), List.getElem?_eq_none (Nat.le_of_not_lt h)]
    rfl
set_option maxRecDepth 1000000 in
set_option maxHeartbeats 8000000 in
theorem bsteps_gen (fp : Option Addr) (p : Int) (l : List Sq) (hll : l.length ≤ 100000) (w : World) (hAl : ∀ W', Below w.heap.size w W' → Calls Tryz.prog 145 #[.pointer fp, .int .i64 p] W' fun e w' => ∃ g a c, e = .returned (.func (.func 164) #[] #[.pointer (some ⟨g, 0, none⟩)]) ∧ W'.heap.size ≤ g ∧ Blk w' g [.slice a l.length c] 28 ∧ CellsAt w' a (l.flatMap sqc) ∧ l.length ≤ c ∧ Below W'.heap.size W' w' ∧ ∀ x, a = some x → W'.heap.size ≤ x.block) :
    Calls Tryz.prog 113 #[.pointer fp, .int .i64 p] w fun e w' => ∃ a, e = .returned (.slice a (bSteps l).length (bSteps l).length) ∧ CellsAt w' a ((bSteps l).flatMap sqc) ∧ Below w.heap.size w w' ∧ ∀ x, a = some x → w.heap.size ≤ x.block := by
  have HAl := hid hAl
  have hbl := bSteps_length l
  have hbs : bSteps l = bGo 3 l ++ (if 64 < (bLast l).len then [bLast l] else []) := rfl
  have hgl := bGo_length l 3 (by omega)
  have HBl := hid (And.intro hbl (And.intro hgl hll))
  have HBs := hid hbs
  clear hAl hbl hbs hgl hll
  have hB3 : Below w.heap.size w (((w.alloc (.cells #[.slice none 0 0] 28)).alloc (.cells #[.int .i64 3] 3)).alloc (.cells #[.int .i64 0, .int .i64 0, .int .i64 0] 43)) := ((below_new w _).alloc (by simp) _).alloc (by simp; omega) _
  have o3 : Blk (((w.alloc (.cells #[.slice none 0 0] 28)).alloc (.cells #[.int .i64 3] 3)).alloc (.cells #[.int .i64 0, .int .i64 0, .int .i64 0] 43)) w.heap.size [.slice none 0 0] 28 := ((Blk.newAt rfl).alloc _).alloc _
  have n3 : Blk (((w.alloc (.cells #[.slice none 0 0] 28)).alloc (.cells #[.int .i64 3] 3)).alloc (.cells #[.int .i64 0, .int .i64 0, .int .i64 0] 43)) (w.heap.size + 1) [.int .i64 3] 3 := (Blk.newAt (by simp)).alloc _
  have z3 : Blk (((w.alloc (.cells #[.slice none 0 0] 28)).alloc (.cells #[.int .i64 3] 3)).alloc (.cells #[.int .i64 0, .int .i64 0, .int .i64 0] 43)) (w.heap.size + 2) [.int .i64 0, .int .i64 0, .int .i64 0] 43 := Blk.newAt (by simp)
  have hs3 : (((w.alloc (.cells #[.slice none 0 0] 28)).alloc (.cells #[.int .i64 3] 3)).alloc (.cells #[.int .i64 0, .int .i64 0, .int .i64 0] 43)).heap.size = w.heap.size + 3 := by simp
  refine (callsIn_wide (n := 1)).1 ?_
  refine callsIn_of_wp_marks Tryz.func113 rfl trivial ?_ rfl
  simp only [Tryz.ntmps113, List.size_toArray, List.length_cons, List.length_nil, Nat.reduceAdd, Nat.reduceSub, Array.replicate_succ, Array.replicate_zero, List.push_toArray, List.append_toArray, List.nil_append, List.cons_append]
  refine wpIn_wide.2 ?_
  have HO3 := hid o3
  have HN3 := hid n3
  have HZ3 := hid z3
  have HB3 := hid hB3
  have HS3 := hid hs3
  clear o3 n3 z3 hB3 hs3
  go_wp2_with fail
  generalize ((w.alloc (.cells #[.slice none 0 0] 28)).alloc (.cells #[.int .i64 3] 3)).alloc (.cells #[.int .i64 0, .int .i64 0, .int .i64 0] 43) = w3 at *
  refine (HAl.out _ HB3.out).mono ?_
  rintro e w4 ⟨g, a, c, rfl, hg, hG, hcs, hlc, hb, hax⟩
  have hs3 := HS3.out
  have hs4 : w.heap.size + 3 ≤ w4.heap.size := by have := hb.size; omega
  have hSt0 : StB w w4.heap.size 43 3 28 [] w4 := ⟨⟨_, HO3.out.below hb (by omega), World.ownsRow_nil _ _ _ _, fun _ => rfl⟩, HN3.out.below hb (by omega), HZ3.out.below hb (by omega), HB3.out.trans (hb.mono HB3.out.size), Nat.le_refl _⟩
  have hgc := hG.cell (k := 0) rfl
  have hglt := hG.lt
  have HRow := hid (fun j u (hu : (l.flatMap sqc)[j]? = some u) => show ∃ b off, a = some ⟨b, off, none⟩ ∧ (w.heap.size + 3 ≤ b ∧ b < w4.heap.size) ∧ w4.cell? ⟨b, off + j, none⟩ = some u from by
    obtain ⟨b, off, e, hb, hc⟩ := hcs j u hu
    subst e
    exact ⟨b, off, rfl, ⟨by have := hax _ rfl; dsimp only at this; omega, hb⟩, hc⟩)
  have HSt0 := hid hSt0
  clear hb hcs hax hSt0 HAl HO3 HN3 HZ3 HB3 HS3
  have hS4 := hs4
  go_wp2_with fail
  refine (wpIn_wide (n := 1)).1 ?_
  obtain ⟨⟩ : True := trivial
  apply wpIn_rangeStBx (gf := 164) (lb := #[.pointer (some ⟨g, 0, none⟩)]) rfl (enters_of Tryz.func164 (by kernel_rfl) rfl) (encs := encsP)
    (call1_seq (fun k => w.heap.size + 3 ≤ k ∧ k < w4.heap.size) (fun t => t == 43) g a c l w4 HBl.out.2.2 ⟨by omega, hglt⟩ hgc HRow.out) (fun _ => rfl)
    (fun xs W => StB w w4.heap.size 43 3 28 (xs.map (·.2)) W) (fun _ _ _ => False) (StB.stays w _ _ _ _ (Nat.le_refl _) hs4) (fun _ _ _ _ _ hf _ _ => hf) HSt0.out
    0 (fun _ W => StB w w4.heap.size 43 3 28 l W) (fun xs W hS hI => by subst hS; rw [enumQ_snd] at hI; exact hI) (fun _ _ _ _ hf => hf.elim) (fun _ _ hq => hq) (fun x => sqc x.2) 43
    (Rx := fun q W => ∃ v, Blk W w.heap.size [v] 28 ∧ v.ownBlock ≠ some q)
    (hRs := fun q _ W W' row hr hg hro => by
      obtain ⟨v, h1, h2⟩ := hr
      exact ⟨v, stays_cells (β := Unit) _ _ _ _ () W W' row h1 hg hro, h2⟩)
    (hR := fun pre x W hI => by
      obtain ⟨v, h1, h2, _⟩ := hI.o
      exact ⟨v, h1.alloc _, own_new h2 (Nat.le_refl _)⟩)
  case hassign =>
    intro l' pre x W K hI hSp hK
    unfold encsP sqv
    obtain ⟨q, hq⟩ : ∃ q, q = W.heap.size := ⟨_, rfl⟩
    have HK := hid (hK q hq)
    have HQ := hid hq
    clear hK hI hSp hq
    gi_wp2
    rw [← HQ.out]
    exact HK.out
  case hbody =>
    rintro l' pre ⟨x1, ⟨xl, xn, xo⟩⟩ q W hI hq hR hSp
    clear hSp
    obtain ⟨v, hv1, hv2, hv3⟩ := hI.o
    obtain ⟨v9, hr1, hr2⟩ := hR
    obtain rfl := blk_one hv1 hr1
    have hq : Blk W q [.int .i64 xl, .int .i64 xn, .int .i64 xo] 43 := hq
    have hN := bN_bounds (pre.map (·.2)) 3 (by omega) (by omega)
    have hgl := bGo_length (pre.map (·.2)) 3 (by omega)
    have hsnoc := bGo_snoc ⟨xl, xn, xo⟩ (pre.map (·.2)) 3
    have hnsn := bN_snoc ⟨xl, xn, xo⟩ (pre.map (·.2)) 3
    have hlsn := bLast_snoc (pre.map (·.2)) ⟨xl, xn, xo⟩
    have hmap : (pre ++ [(x1, (⟨xl, xn, xo⟩ : Sq))]).map (·.2) = pre.map (·.2) ++ [⟨xl, xn, xo⟩] := by simp
    have hI2 := hI
    generalize hL : pre.map (·.2) = L at *
    obtain ⟨N0, hN0⟩ : ∃ N0, bN 3 L = N0 := ⟨_, rfl⟩
    rw [hN0] at hN hsnoc hnsn
    have HI := hid hI
    have HQ0 := hid hq
    have HV := hid (And.intro hv1 (And.intro hv2 (And.intro hv3 hr2)))
    have HSn := hid (And.intro hsnoc (And.intro hnsn (And.intro hlsn hmap)))
    have HNb := hid (And.intro hN hgl)
    have HNn := hid (show Blk W (w.heap.size + 1) [.int .i64 N0] 3 from hN0 ▸ hI.n)
    clear hI hI2 hq hv1 hv2 hv3 hr1 hr2 hsnoc hnsn hlsn hmap hN hgl hN0 HBs
    gi_wp2
    gi_loopg [] (65 - N0).toNat (fun gk wr => ∃ (k : Nat) (u : Value), gk = (65 - (N0 + k)).toNat ∧ (k = 0 ∨ N0 + k ≤ min 64 xn + 1) ∧ Blk wr w.heap.size [u] 28 ∧ wr.ownsRow w4.heap.size 43 3 u ((bGo 3 L).length + k) ((bGo 3 L ++ (spanN N0 k).map (fun m => (⟨0, m, xo⟩ : Sq))).flatMap sqc) ∧
      ((bGo 3 L).length + k = 0 → u = .slice none 0 0) ∧ u.ownBlock ≠ some q ∧ Blk wr (w.heap.size + 1) [.int .i64 (N0 + k)] 3 ∧ Blk wr (w.heap.size + 2) (sqc (bLast L)) 43 ∧ Blk wr q [.int .i64 xl, .int .i64 xn, .int .i64 xo] 43 ∧ Below w.heap.size w wr ∧
      KeepsT (fun k => w.heap.size + 3 ≤ k ∧ k < w4.heap.size) w4.heap.size (fun t => t == 43) W wr ∧ w4.heap.size ≤ wr.heap.size)
    case atStart => exact ⟨0, v, by simp, .inl rfl, HV.out.1, by simpa [spanN] using HV.out.2.1, by simpa using HV.out.2.2.1, HV.out.2.2.2, by simpa using HNn.out, HI.out.z, HQ0.out, HI.out.low, KeepsT.refl _ _ _ _, HI.out.sz⟩
    case round =>
      obtain ⟨k, u, hgk, hk, hu, ho, hn0, hne, hn, hz, hq, hb, hkp, hsz⟩ := hrel
      have x0 := hu.cell (k := 0) rfl
      have x1' := hn.cell (k := 0) rfl
      have x2 := hq.cell (k := 1) rfl
      have x3 := hq.cell (k := 2) rfl
      have hqlt := hq.lt
      have hsq : (w.heap.size : Nat) ≠ q := fun e => by
        subst e
        exact (by decide : ¬ (28 : TypeId) = 43) (blk_type hu hq)
      have hsq1 : w.heap.size + 1 ≠ q := fun e => by
        subst e
        exact (by decide : ¬ (3 : TypeId) = 43) (blk_type hn hq)
      have HHu := hid (And.intro hu (And.intro ho (And.intro hn0 hne)))
      have HHn := hid (And.intro hn (And.intro hz (And.intro hq (And.intro hb (And.intro hkp hsz)))))
      have HGk := hid (And.intro hgk hk)
      clear hgk hk hu ho hn0 hne hn hz hq hb hkp hsz
      by_cases hc : N0 + k ≤ min 64 xn
      · have hk0 := HGk.out.2
        obtain ⟨av, cv, rfl⟩ := own_slice HHu.out.2.1
        obtain ⟨bb, hbb1, hbb2, hbb3, hbb4⟩ : ∃ bb, w4.heap.size ≤ bb ∧ bb ≤ wr.heap.size ∧ wr.ownsRow bb 43 3 (.slice av ((bGo 3 L).length + k) cv) ((bGo 3 L).length + k) ((bGo 3 L ++ (spanN N0 k).map (fun m => (⟨0, m, xo⟩ : Sq))).flatMap sqc) ∧ ((bGo 3 L).length + k = 0 → wr.heap.size ≤ bb) := by
          by_cases h0 : (bGo 3 L).length + k = 0
          · refine ⟨wr.heap.size, HHn.out.2.2.2.2.2, Nat.le_refl _, ?_, fun _ => Nat.le_refl _⟩
            have e1 := List.eq_nil_of_length_eq_zero (show (bGo 3 L).length = 0 from by omega)
            have e2 : k = 0 := by omega
            have e3 := HHu.out.2.2.1 h0
            rw [e3, e1, e2]
            exact World.ownsRow_nil _ _ _ _
          · exact ⟨w4.heap.size, Nat.le_refl _, HHn.out.2.2.2.2.2, HHu.out.2.1, fun h => absurd h h0⟩
        have HB := hid (And.intro hbb1 (And.intro hbb2 (And.intro hbb3 hbb4)))
        have hkl : (bGo 3 L).length + k ≤ 1000 := by have := HNb.out.1; have := HNb.out.2; omega
        clear hbb1 hbb2 hbb3 hbb4
        gi_wp2_with (gi_at_builtin; refine Hid.out ?_)
        refine hid ?_
        refine wpListIn_append1 rfl _ _ 28 rfl 43 _ 3 24 Tryz.underlying28 Tryz.info_seq rfl (by decide) (by decide) _ bb _ ((bGo 3 L).length + k) _ [.int .i64 0, .int .i64 (N0 + k), .int .i64 xo] rfl ?hu rfl rfl (by exact HB.out.2.2.1) ?hn (by exact HB.out.2.1) ?hk
        case hu => simp [Value.oneCell']
        case hn => omega
        case hk =>
          intro v' w3 hown' hg
          obtain ⟨av', cv', rfl⟩ := own_slice hown'
          obtain ⟨m, hm⟩ : ∃ m, m = (bGo 3 L).length + k + 1 := ⟨_, rfl⟩
          rw [← hm] at hown' ⊢
          have hn1 := HNb.out.1
          have hbb := HB.out.1
          have hlow := own_le hown' HB.out.1
          have hne2 := own_apart HHu.out.2.2.2 HHn.out.2.2.1 rfl (hm ▸ hown') hg HB.out.2.2.2
          have hS3 := HHu.out.1.grown hg (own_ne HB.out.2.2.1 (by omega))
          have hN3 := HHn.out.1.grown hg (own_ne HB.out.2.2.1 (by omega))
          have hZ3 := HHn.out.2.1.grown hg (own_ne HB.out.2.2.1 (by omega))
          have hQ3 := HHn.out.2.2.1.grown hg (Ne.symm HHu.out.2.2.2)
          have hb3 := HHn.out.2.2.2.1.grown hg HHn.out.2.2.2.1.size (fun k hk => by have := (HB.out.2.2.1.lt k hk).1; omega)
          have hk3 := HHn.out.2.2.2.2.1.trans (D := w4.heap.size) (keeps_own HB.out.2.2.1 hg rfl (fun k hk => by omega))
          have hz3 : w4.heap.size ≤ w3.heap.size := Nat.le_trans HHn.out.2.2.2.2.2 hg.size
          have hS5 := (hS3.set 0 (.slice av' m cv')).other (a := ⟨w.heap.size + 1, 0, none⟩) (.int .i64 (N0 + k + 1)) (by dsimp only; omega)
          have hN4 := hN3.other (a := ⟨w.heap.size, 0, none⟩) (.slice av' m cv') (by dsimp only; omega)
          have hN5 := hN4.set 0 (.int .i64 (N0 + k + 1))
          have hZ5 := (hZ3.other (a := ⟨w.heap.size, 0, none⟩) (.slice av' m cv') (by dsimp only; omega)).other (a := ⟨w.heap.size + 1, 0, none⟩) (.int .i64 (N0 + k + 1)) (by dsimp only; omega)
          have hQ5 := (hQ3.other (a := ⟨w.heap.size, 0, none⟩) (.slice av' m cv') (by dsimp only; exact hsq)).other (a := ⟨w.heap.size + 1, 0, none⟩) (.int .i64 (N0 + k + 1)) (by dsimp only; exact hsq1)
          have hO5 := own_far (own_far hlow (a := ⟨w.heap.size, 0, none⟩) (.slice av' m cv') (by dsimp only; omega)) (a := ⟨w.heap.size + 1, 0, none⟩) (.int .i64 (N0 + k + 1)) (by dsimp only; omega)
          have hb5 := (hb3.setCell (p := ⟨w.heap.size, 0, none⟩) (Nat.le_refl _) (.slice av' m cv')).setCell (p := ⟨w.heap.size + 1, 0, none⟩) (Nat.le_succ _) (.int .i64 (N0 + k + 1))
          have hk5 := (hk3.trans (KeepsT.set w3 ⟨w.heap.size, 0, none⟩ (.slice av' m cv') (by dsimp only; omega) (by dsimp only; omega))).trans (KeepsT.set _ ⟨w.heap.size + 1, 0, none⟩ (.int .i64 (N0 + k + 1)) (by dsimp only; omega) (by dsimp only; omega))
          have hz5 : w4.heap.size ≤ ((w3.setCell ⟨w.heap.size, 0, none⟩ (.slice av' m cv')).setCell ⟨w.heap.size + 1, 0, none⟩ (.int .i64 (N0 + k + 1))).heap.size := by
            simp
            omega
          have y0 := hS3.cell (k := 0) rfl
          have yz := hS3.frozen 0
          have y1 := hN4.cell (k := 0) rfl
          have yz1 := hN4.frozen 0
          have HF := hid (And.intro hS5 (And.intro hN5 (And.intro hZ5 (And.intro hQ5 (And.intro hO5 (And.intro hb5 (And.intro hk5 (And.intro hz5 hne2))))))))
          have HM := hid hm
          clear hS3 hN3 hZ3 hQ3 hb3 hk3 hz3 hS5 hN4 hN5 hZ5 hQ5 hO5 hb5 hk5 hz5 hne2 hlow hown' hg hm x0 x1' x2 x3
          gi_wp2
          gi_roundg (65 - (N0 + k + 1)).toNat
          case measure => 
            have := HGk.out.1
            omega
          case rel =>
            have hm := HM.out
            obtain ⟨f1, f2, f3, f4, f5, f6, f7, f8, f9⟩ := HF.out
            refine ⟨k + 1, (.slice av' m cv'), ?_, .inr ?_, f1, ?_, fun h => by omega, (by rw [hm]; exact f9), ?_, f3, f4, f6, f7, f8⟩
            · rw [show N0 + ((k + 1 : Nat) : Int) = N0 + k + 1 from by omega]
            · omega
            · rw [spanN_snoc, List.map_append, ← List.append_assoc, List.flatMap_append]
              rw [show (bGo 3 L).length + (k + 1) = m from by omega]
              exact f5
            · rw [show N0 + ((k + 1 : Nat) : Int) = N0 + k + 1 from by omega]
              exact f2
      · have hk0 := HGk.out.2
        obtain ⟨m2, hm2⟩ : ∃ m2, m2 = w.heap.size + 1 + 1 := ⟨_, rfl⟩
        have hZm : Blk wr m2 (sqc (bLast L)) 43 := hm2 ▸ HHn.out.2.1
        have z1 := hZm.cell (k := 0) rfl
        have z2 := hZm.cell (k := 1) rfl
        have z3 := hZm.cell (k := 2) rfl
        have zf := hZm.frozen 0
        have zf1 := hZm.frozen 1
        have zf2 := hZm.frozen 2
        have hm2lt := hZm.lt
        rw [hm2] at z1 z2 z3 zf zf1 zf2 hm2lt
        have x4 := HHn.out.2.2.1.cell (k := 0) rfl
        gi_wp2
        have hsnoc := HSn.out.1
        have hnsn := HSn.out.2.1
        have hlsn := HSn.out.2.2.1
        have hspan : span N0 (min 64 xn) = spanN N0 k := by
          unfold span
          congr 1
          omega
        have hN9 : max N0 (min 64 xn + 1) = N0 + k := by omega
        have hZ0 := hZm.set 0 (.int .i64 xl)
        rw [hm2] at hZ0
        have hZ1 := hZ0.set 1 (.int .i64 xn)
        have hZ2 := hZ1.set 2 (.int .i64 xo)
        have hU2 := ((HHu.out.1.other (a := ⟨w.heap.size + 1 + 1, 0, none⟩) (.int .i64 xl) (by dsimp only; omega)).other (a := ⟨w.heap.size + 1 + 1, 1, none⟩) (.int .i64 xn) (by dsimp only; omega)).other (a := ⟨w.heap.size + 1 + 1, 2, none⟩) (.int .i64 xo) (by dsimp only; omega)
        have hN2 := ((HHn.out.1.other (a := ⟨w.heap.size + 1 + 1, 0, none⟩) (.int .i64 xl) (by dsimp only; omega)).other (a := ⟨w.heap.size + 1 + 1, 1, none⟩) (.int .i64 xn) (by dsimp only; omega)).other (a := ⟨w.heap.size + 1 + 1, 2, none⟩) (.int .i64 xo) (by dsimp only; omega)
        have hO2 := own_far (own_far (own_far HHu.out.2.1 (a := ⟨w.heap.size + 1 + 1, 0, none⟩) (.int .i64 xl) (by dsimp only; omega)) (a := ⟨w.heap.size + 1 + 1, 1, none⟩) (.int .i64 xn) (by dsimp only; omega)) (a := ⟨w.heap.size + 1 + 1, 2, none⟩) (.int .i64 xo) (by dsimp only; omega)
        have hb2 := ((HHn.out.2.2.2.1.setCell (p := ⟨w.heap.size + 1 + 1, 0, none⟩) (by dsimp only; omega) (.int .i64 xl)).setCell (p := ⟨w.heap.size + 1 + 1, 1, none⟩) (by dsimp only; omega) (.int .i64 xn)).setCell (p := ⟨w.heap.size + 1 + 1, 2, none⟩) (by dsimp only; omega) (.int .i64 xo)
        have hk2 := ((HHn.out.2.2.2.2.1.trans (KeepsT.set wr ⟨w.heap.size + 1 + 1, 0, none⟩ (.int .i64 xl) (by dsimp only; omega) (by dsimp only; omega))).trans (KeepsT.set _ ⟨w.heap.size + 1 + 1, 1, none⟩ (.int .i64 xn) (by dsimp only; omega) (by dsimp only; omega))).trans (KeepsT.set _ ⟨w.heap.size + 1 + 1, 2, none⟩ (.int .i64 xo) (by dsimp only; omega) (by dsimp only; omega))
        refine ⟨hk2, ?_⟩
        show StB w w4.heap.size 43 3 28 (List.map (fun x => x.2) (pre ++ [(x1, ⟨xl, xn, xo⟩)])) _
        rw [HSn.out.2.2.2]
        refine ⟨⟨u, hU2, ?_, ?_⟩, ?_, ?_, hb2, ?_⟩
        · rw [hsnoc, hspan, List.length_append, List.length_map, spanN_length]
          exact hO2
        · rw [hsnoc, hspan, List.length_append, List.length_map, spanN_length]
          exact HHu.out.2.2.1
        · rw [hnsn, hN9]
          exact hN2
        · rw [hlsn]
          exact hZ2
        · have := HHn.out.2.2.2.2.2
          simp
          omega
  case hrest =>
    rintro Dd xs W hD hF hK
    obtain ⟨m2, hm2⟩ : ∃ m2, m2 = w.heap.size + 1 + 1 := ⟨_, rfl⟩
    have hZm : Blk W m2 (sqc (bLast l)) 43 := hm2 ▸ hF.z
    have z1 := hZm.cell (k := 0) rfl
    have z2 := hZm.cell (k := 1) rfl
    have z3 := hZm.cell (k := 2) rfl
    have hm2lt := hZm.lt
    rw [hm2] at z1 z2 z3 hm2lt
    obtain ⟨v, hv1, hv2, hv3⟩ := hF.o
    obtain ⟨av, cv, rfl⟩ := own_slice hv2
    have o0 := hv1.cell (k := 0) rfl
    have oz := hv1.frozen 0
    have olt := hv1.lt
    have HFi := hid hF
    have HV := hid (And.intro hv1 (And.intro hv2 hv3))
    have HKd := hid hK
    have hbl : (bGo 3 l).length ≤ 1000 := by have := HBl.out.2.1; omega
    clear hF hv1 hv2 hv3 hK
    obtain ⟨ifo, hinfo, _, _, _⟩ := info_parts Tryz.info_seq
    by_cases hc : 64 < (bLast l).len
    · have hbs : bSteps l = bGo 3 l ++ [bLast l] := by rw [HBs.out, if_pos hc]
      go_wp2_with (at_builtin; refine Hid.out ?_)
      refine hid ?_
      refine wpList_append1 rfl _ _ 28 rfl 43 _ 3 24 Tryz.underlying28 Tryz.info_seq rfl (by decide) (by decide) _ w4.heap.size _ (bGo 3 l).length _ [.int .i64 (bLast l).lit, .int .i64 (bLast l).len, .int .i64 (bLast l).off] rfl ?hu rfl rfl (by exact HV.out.2.1) ?hn HFi.out.sz ?hk
      case hu => simp [Value.oneCell']
      case hn => omega
      case hk =>
        intro v' w3 hown' hg
        obtain ⟨m, hm⟩ : ∃ m, m = (bGo 3 l).length + 1 := ⟨_, rfl⟩
        rw [← hm] at hown'
        obtain ⟨av', cv', rfl⟩ := own_slice hown'
        have hs3 := hg.size
        have hS3 := HV.out.1.grown hg (own_ne HV.out.2.1 (by omega))
        have hb3 := HFi.out.low.grown hg HFi.out.low.size (fun k hk => by have := (HV.out.2.1.lt k hk).1; omega)
        have hK3 := (hg.block Dd (Array.getElem?_eq_some_iff.1 HKd.out).1 (own_neD HV.out.2.1 HKd.out)).trans HKd.out
        have y0 := hS3.cell (k := 0) rfl
        have yz := hS3.frozen 0
        have HM := hid (show (bSteps l).length = m from by rw [hbs, hm, List.length_append]; rfl)
        have HFx := hid (show Blk (w3.setCell ⟨w.heap.size, 0, none⟩ (.slice av' m cv')) w.heap.size [.slice av' m cv'] 28 ∧ (w3.setCell ⟨w.heap.size, 0, none⟩ (.slice av' m cv')).ownsRow w4.heap.size 43 3 (.slice av' m cv') m ((bSteps l).flatMap sqc) ∧ Below w.heap.size w (w3.setCell ⟨w.heap.size, 0, none⟩ (.slice av' m cv')) ∧ (w3.setCell ⟨w.heap.size, 0, none⟩ (.slice av' m cv')).heap[Dd]? = some (.deferred (some [])) from
          ⟨hS3.set 0 _, by rw [hbs, List.flatMap_append]; exact own_far hown' (a := ⟨w.heap.size, 0, none⟩) _ (by dsimp only; omega), hb3.setCell (p := ⟨w.heap.size, 0, none⟩) (Nat.le_refl _) _, (Below.heap_setCell _ ⟨w.heap.size, 0, none⟩ _ Dd (by dsimp only; omega)).trans hK3⟩)
        obtain ⟨_, hcp⟩ := own_clip hown'
        have u0 := HFx.out.1.cell (k := 0) rfl
        have uz := HFx.out.1.frozen 0
        have hc1 := run_clip (P := Tryz.prog) Tryz.underlying28 hinfo hcp
        have hc2 := run_clipAt (P := Tryz.prog) Tryz.underlying28 hinfo hcp
        clear hS3 hb3 hK3 hown' hg hbs z1 z2 z3 o0 oz hm hcp
        go_wp2_with fail
        generalize w3.setCell ⟨w.heap.size, 0, none⟩ (.slice av' m cv') = WX at *
        have h1s := HFx.out.1.set 0 (.slice av' m m)
        have hol := own_far HFx.out.2.1 (a := ⟨w.heap.size, 0, none⟩) (.slice av' m m) (by dsimp only; omega)
        have hbl9 := HFx.out.2.2.1.setCell (p := ⟨w.heap.size, 0, none⟩) (Nat.le_refl _) (.slice av' m m)
        have hKs := (Below.heap_setCell _ ⟨w.heap.size, 0, none⟩ (.slice av' m m) Dd (by dsimp only; omega)).trans HFx.out.2.2.2
        generalize WX.setCell ⟨w.heap.size, 0, none⟩ (.slice av' m m) = W9 at *
        refine ⟨by simp, .inl ⟨_, _, rfl, run_takeDeferred hKs, ?_⟩⟩
        have k1 : ∀ o, Blk (W9.putObj Dd o) w.heap.size [.slice av' m m] 28 := fun o => (World.putObj_heap_other (by omega)).trans h1s
        have q1 := fun o => (k1 o).cell (k := 0) rfl
        have hfin := fun o => own_rows (stays_own (β := Unit) 0 _ _ _ _ _ _ () W9 (W9.putObj Dd o) (some Dd) hol (grownBy_putObj' _ _ _) (fun r hr => by cases hr; exact ⟨Nat.zero_le _, _, hKs, rfl⟩))
        refine ⟨.slice av' m m, by simp [results, Tryz.results113, go_sem, q1], av', by rw [HM.out], (hfin _).1, hbl9.grown (grownBy_putObj' _ _ _) hbl9.size (fun k hk => by cases hk; omega), fun x hx => ?_⟩
        have := (hfin (.deferred none)).2 x hx
        omega
    · have hbs : bSteps l = bGo 3 l := by rw [HBs.out, if_neg hc, List.append_nil]
      obtain ⟨m, hm⟩ : ∃ m, m = (bGo 3 l).length := ⟨_, rfl⟩
      have HM := hid (show (bSteps l).length = m from by rw [hbs, hm])
      have HFx := hid (show Blk W w.heap.size [.slice av m cv] 28 ∧ W.ownsRow w4.heap.size 43 3 (.slice av m cv) m ((bSteps l).flatMap sqc) ∧ Below w.heap.size w W ∧ W.heap[Dd]? = some (.deferred (some [])) from
          ⟨by rw [hm]; exact HV.out.1, by rw [hbs, hm]; exact HV.out.2.1, HFi.out.low, HKd.out⟩)
      clear hbs o0 oz HV HFi HKd hm
      have hown9 := HFx.out.2.1
      obtain ⟨_, hcp⟩ := own_clip hown9
      have u0 := HFx.out.1.cell (k := 0) rfl
      have uz := HFx.out.1.frozen 0
      have hc1 := run_clip (P := Tryz.prog) Tryz.underlying28 hinfo hcp
      have hc2 := run_clipAt (P := Tryz.prog) Tryz.underlying28 hinfo hcp
      clear hown9 hcp
      go_wp2_with fail
      have h1s := HFx.out.1.set 0 (.slice av m m)
      have hol := own_far HFx.out.2.1 (a := ⟨w.heap.size, 0, none⟩) (.slice av m m) (by dsimp only; omega)
      have hbl9 := HFx.out.2.2.1.setCell (p := ⟨w.heap.size, 0, none⟩) (Nat.le_refl _) (.slice av m m)
      have hKs := (Below.heap_setCell _ ⟨w.heap.size, 0, none⟩ (.slice av m m) Dd (by dsimp only; omega)).trans HFx.out.2.2.2
      generalize W.setCell ⟨w.heap.size, 0, none⟩ (.slice av m m) = W9 at *
      refine ⟨by simp, .inl ⟨_, _, rfl, run_takeDeferred hKs, ?_⟩⟩
      have k1 : ∀ o, Blk (W9.putObj Dd o) w.heap.size [.slice av m m] 28 := fun o => (World.putObj_heap_other (by omega)).trans h1s
      have q1 := fun o => (k1 o).cell (k := 0) rfl
      have hfin := fun o => own_rows (stays_own (β := Unit) 0 _ _ _ _ _ _ () W9 (W9.putObj Dd o) (some Dd) hol (grownBy_putObj' _ _ _) (fun r hr => by cases hr; exact ⟨Nat.zero_le _, _, hKs, rfl⟩))
      refine ⟨.slice av m m, by simp [results, Tryz.results113, go_sem, q1], av, by rw [HM.out], (hfin _).1, hbl9.grown (grownBy_putObj' _ _ _) hbl9.size (fun k hk => by cases hk; omega), fun x hx => ?_⟩
      have := (hfin (.deferred none)).2 x hx
      omega
theorem bsteps_any (bs : List UInt8) (A : Nat) (Wd D : Int) (F : Nat) (p : Int) (w : World) (h : FdAt 50 79 bs A Wd D F w) :
    Calls Tryz.prog 113 #[.pointer (some ⟨F, 0, none⟩), .int .i64 p] w fun e w' => ∃ a, e = .returned (.slice a (bSteps (allS bs A Wd D p)).length (bSteps (allS bs A Wd D p)).length) ∧ CellsAt w' a ((bSteps (allS bs A Wd D p)).flatMap sqc) ∧ Below w.heap.size w w' ∧ ∀ x, a = some x → w.heap.size ≤ x.block :=
  bsteps_gen _ p _ (by have h1 := allS_length bs A Wd D p (by have := h.hD; omega); have := h.hD; omega) w (fun W' hb => call_at bs A Wd D F p W' (h.low hb))
end Go.Proofs.YtlgablepckmogaaGreat
