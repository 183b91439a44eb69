/-
  The walks of layer 33 (best): the minimal costs of the reference.
-/
import Derived.Test.YtiagbejfghincaaGreatY37
import Derived.Test.YtiagbejfghincaaGreatY41
import Derived.Test.YtiagbejfghincaaGreatY40
import Derived.Test.YtiagbejfghincaaGreatY42
import Derived.Test.YtiagbejfghincaaGreatY21
import Derived.LoopIn
import Derived.Deep.LoopGhost
import Derived.StillTailTactics
import Derived.WalkMore
namespace Go.Proofs.YtiagbejfghincaaGreat
open Go.RowKit Go.Port
attribute [local go_sem] Oper.semAt_some
theorem bounds_one {P : Program} (n c i : Nat) (hi : i < n) (hc : n ≤ c) (W : World) : (Instr.sliceBounds true n c (some (.int .i64 (i : Int))) (some (.int .i64 ((i : Int) + 1))) none).run P W = .ok (i, i + 1, c) W := by
  have h1 : ¬ (c : Int) < (i : Int) + 1 := by omega
  have h2 : ¬ (i : Int) + 1 < 0 := by omega
  have h3 : ((i : Int) + 1).toNat = i + 1 := by omega
  have h4 : ¬ (i : Int) + 1 < (i : Int) := by omega
  simp [Instr.sliceBounds, Instr.sliceBound, asIntOf, h1, h2, h3]
  try omega
theorem cut_u8_one (ad : Option Addr) (n c i : Nat) (hi : i < n) (hc : n ≤ c) (W : World) : (Instr.slice 22 (.slice ad n c) (some (.int .i64 (i : Int))) (some (.int .i64 ((i : Int) + 1))) none).run Tryz.prog W = .ok (.slice (cutA ad c i 1) 1 (c - i)) W := by
  obtain ⟨x, h1, h2⟩ := info_size (P := Tryz.prog) (e := 5) (n := 1) (by kernel_rfl)
  have := run_cut Tryz.underlying22 h1 ad n c (some (.int .i64 (i : Int))) (some (.int .i64 ((i : Int) + 1))) i (i + 1) (bounds_one n c i hi hc) W
  rw [h2, Nat.add_sub_cancel_left] at this
  exact this
theorem cut_u8_oneAt (ad : Option Addr) (n c i : Nat) (hi : i < n) (hc : n ≤ c) (W : World) : (Instr.sliceAt 22 (.slice ad n c) (some (.int .i64 (i : Int))) (some (.int .i64 ((i : Int) + 1))) none).run Tryz.prog W = .ok (.slice (cutA ad c i 1) 1 (c - i)) W := by
  obtain ⟨x, h1, h2⟩ := info_size (P := Tryz.prog) (e := 5) (n := 1) (by kernel_rfl)
  have := run_cutAt Tryz.underlying22 h1 ad n c (some (.int .i64 (i : Int))) (some (.int .i64 ((i : Int) + 1))) i (i + 1) (bounds_one n c i hi hc) W
  rw [h2, Nat.add_sub_cancel_left] at this
  exact this
/-- Where the reference's loops stand: its row of costs. -/
structure RcIn (w3 w8 : World) (G : Nat) (cs : List Int) (W : World) : Prop where
  low : Below w3.heap.size w3 W
  sz : w8.heap.size ≤ W.heap.size
  kp : ∀ b, b < w8.heap.size → b ≠ G → W.heap[b]? = w8.heap[b]?
  c : Blk W G (cs.map iv) 3
theorem RcIn.on {w3 w8 : World} {G : Nat} {cs : List Int} {W W' : World} (h : RcIn w3 w8 G cs W) (hb : Below W.heap.size W W') : RcIn w3 w8 G cs W' :=
  ⟨h.low.trans (hb.mono h.low.size), Nat.le_trans h.sz hb.size, fun b h1 h2 => (hb.block b (Nat.lt_of_lt_of_le h1 h.sz)).trans (h.kp b h1 h2), h.c.below hb h.c.lt⟩
theorem RcIn.store {w3 w8 : World} {G : Nat} {cs : List Int} {W : World} (h : RcIn w3 w8 G cs W) (hG : w3.heap.size ≤ G) (i : Nat) (v : Int) : RcIn w3 w8 G (cs.set i v) (W.setCell ⟨G, i, none⟩ (.int .i64 v)) := by
  refine ⟨h.low.setCell (p := ⟨G, i, none⟩) hG _, by simpa using h.sz, fun b h1 h2 => ?_, ?_⟩
  · rw [Below.heap_setCell _ _ _ _ (by dsimp only; exact h2)]
    exact h.kp b h1 h2
  · have := h.c.set i (.int .i64 v)
    rwa [show (Value.int .i64 v) = iv v from rfl, ← List.map_set] at this
theorem RcIn.cs {w3 w8 : World} {G : Nat} {cs : List Int} {W : World} (h : RcIn w3 w8 G cs W) {a : Option Addr} {vs : List Value} (hc : CellsAt w8 a vs) (hne : ∀ x, a = some x → x.block ≠ G) : CellsAt W a vs := fun j u hu => by
  obtain ⟨b, o, e, h1, h2⟩ := hc j u hu
  exact ⟨b, o, e, Nat.lt_of_lt_of_le h1 h.sz, (World.cell?_of_block (h.kp b h1 (hne _ e))).trans h2⟩
theorem RcIn.old {w3 w8 : World} {G : Nat} {cs : List Int} {W : World} (h : RcIn w3 w8 G cs W) : RcIn w3 w3 G cs W := ⟨h.low, h.low.size, fun b h1 _ => h.low.block b h1, h.c⟩
theorem RcIn.new {w3 w8 : World} {G : Nat} {cs : List Int} {W : World} (h : RcIn w3 w8 G cs W) : RcIn w3 W G cs W := ⟨h.low, Nat.le_refl _, fun _ _ _ => rfl, h.c⟩
set_option maxRecDepth 1000000 in
set_option maxHeartbeats 8000000 in
theorem rcosts_any (bs : List UInt8) (a : Option Addr) (c A : Nat) (Wd D : Int) (Ar : Nat → Option Addr) (cp : Nat → Nat) (C : Nat → List Int) (w : World) (hb : bs.length ≤ 1000000) (hdn : (bs.drop A).length ≤ 131072) (hbc : bs.length ≤ c) (hA : A ≤ bs.length) (hW : 1 ≤ Wd ∧ Wd ≤ 134217728) (hD : 1 ≤ D ∧ D ≤ 4096) (hc : CellsAt w a (bs.map bv)) (hR : RfAt w Ar cp C) :
    Calls Tryz.prog 16 #[fdv a bs.length c A Wd D, fourV Ar cp C] w fun e w' => ∃ g, e = .returned (.slice (some ⟨g, 0, none⟩) ((bs.drop A).length + 1) ((bs.drop A).length + 1)) ∧ w.heap.size ≤ g ∧ Blk w' g ((costsL (tabF C bs A Wd D)).map iv) 3 ∧ Below w.heap.size w w' := by
  have HSt := hid (fun (p : Int) W' (hb' : Below w.heap.size w W') => rsteps_any bs a c A Wd D p W' hb hbc hA hW hD (at_same hc hb'))
  have hdl : (bs.drop A).length = bs.length - A := List.length_drop
  have HLi := hid (fun W' (hb' : Below w.heap.size w W') ad cd b (hcb : Cs W' ad ([b].map bv)) => rlits_any Ar cp C W' (hR.low hb') ad cd [b] (by simp) hcb)
  have HSp := hid (fun W' (hb' : Below w.heap.size w W') n off h1 h2 => rstep_any Ar cp C W' (hR.low hb') n off h1 h2)
  have HDt := hid (fun W' (hb' : Below w.heap.size w W') => show Cs W' (cutA a c A 1) ((bs.drop A).map bv) from by
    have h := cutA_cs (at_same hc hb') c A 1 (by rw [List.length_map]; omega) (bs.drop A).length
    rwa [Nat.mul_one, ← List.map_drop, List.take_of_length_le (by rw [List.length_map]; exact Nat.le_refl _)] at h)
  have hchk : Choices (bs.drop A).length (chF bs A Wd D) := choices_ok hA hW.2
  have hC := hR.ok
  have hlo : ∀ i, (chF bs A Wd D i).length ≤ 63 := fun i => bSteps_length _
  have hcutA := cut_u8_lo a bs.length c A hA
  have hcutB := cut_u8_loAt a bs.length c A hA
  rw [← hdl] at hcutA hcutB
  unfold tabF
  have HSt2 := hid (show ∀ (p : Int) W' (hb' : Below w.heap.size w W'), Calls Tryz.prog 13 #[.agg #[.slice a bs.length c, .int .i64 (A : Int), .int .i64 Wd, .int .i64 D], .int .i64 p] W' fun e w' => ∃ v, e = .returned v ∧ w'.ownsRow W'.heap.size 44 3 v (chF bs A Wd D p).length ((chF bs A Wd D p).flatMap sqc) ∧ Below W'.heap.size W' w' from HSt.out)
  have hnd := hdn
  have hcd : (bs.drop A).length ≤ c - A := by omega
  unfold fdv fourV
  unfold fourV at HLi HSp
  have HCk := hid hC
  have HLo := hid hlo
  have HCh := hid hchk
  clear hR hC hlo hchk hc HSt hD hW hb hbc hdl
  generalize (bs.drop A) = data at *
  generalize (chF bs A Wd D) = ch at *
  obtain ⟨n, hnn⟩ : ∃ n, data.length = n := ⟨_, rfl⟩
  have HN := hid hnn
  rw [hnn] at HCh hnd hdn hcd hcutA hcutB ⊢
  clear hnn
  obtain ⟨i1, hi1, hi1z, hi1s, hi1b⟩ := info_parts Tryz.info_int
  have hmkI : ∀ W : World, (Instr.makeSlice 23 (.int .i64 ((n : Int) + 1)) (.int .i64 ((n : Int) + 1))).run Tryz.prog W = .ok (.slice (some ⟨W.heap.size, 0, none⟩) (n + 1) (n + 1)) (W.alloc (.cells ((costsN n []).map iv).toArray 3)) := fun W => by
    have h := run_make (P := Tryz.prog) W 23 3 i1 (.int .i64 0) Tryz.underlying23 hi1 hi1z .i64 .i64 (n + 1 : Nat) (n + 1 : Nat) (by omega) (Int.le_refl _) (by rw [hi1b]; omega) (by omega)
    rw [made_all (u := .int .i64 0) (fun j hj => by
      have : j = 0 := by simpa [Value.cells] using hj
      subst this
      rfl) (by simp [Value.cells]), hi1s, Int.toNat_natCast, Nat.mul_one] at h
    have e9 : ((costsN n []).map iv) = List.replicate (n + 1) (.int .i64 0) := by unfold costsN costsL; simp [List.replicate_succ', iv]
    rw [e9, show ((n : Int) + 1) = ((n + 1 : Nat) : Int) from by omega]
    exact h
  clear hi1 hi1z hi1s hi1b
  have hw9 : IntKind.i64.wrap ((n : Int) + 1) = (n : Int) + 1 := by rw [IntKind.wrap_i64]; omega
  have hw8 : IntKind.i64.wrap ((n : Int) - 1) = (n : Int) - 1 := by rw [IntKind.wrap_i64]; omega
  have hXf := ((Blk.newAt rfl : Blk (w.alloc (.cells #[.slice a bs.length c, .int .i64 (A : Int), .int .i64 Wd, .int .i64 D] 30)) w.heap.size [.slice a bs.length c, .int .i64 (A : Int), .int .i64 Wd, .int .i64 D] 30).alloc (.cells #[.slice (Ar 0) (C 0).length (cp 0), .slice (Ar 1) (C 1).length (cp 1), .slice (Ar 2) (C 2).length (cp 2), .slice (Ar 3) (C 3).length (cp 3)] 32))
  have hXp := (Blk.newAt (by simp) : Blk ((w.alloc (.cells #[.slice a bs.length c, .int .i64 (A : Int), .int .i64 Wd, .int .i64 D] 30)).alloc (.cells #[.slice (Ar 0) (C 0).length (cp 0), .slice (Ar 1) (C 1).length (cp 1), .slice (Ar 2) (C 2).length (cp 2), .slice (Ar 3) (C 3).length (cp 3)] 32)) (w.heap.size + 1) [.slice (Ar 0) (C 0).length (cp 0), .slice (Ar 1) (C 1).length (cp 1), .slice (Ar 2) (C 2).length (cp 2), .slice (Ar 3) (C 3).length (cp 3)] 32)
  have hB3 : Below w.heap.size w ((w.alloc (.cells #[.slice a bs.length c, .int .i64 (A : Int), .int .i64 Wd, .int .i64 D] 30)).alloc (.cells #[.slice (Ar 0) (C 0).length (cp 0), .slice (Ar 1) (C 1).length (cp 1), .slice (Ar 2) (C 2).length (cp 2), .slice (Ar 3) (C 3).length (cp 3)] 32)) := (below_new w _).alloc (by simp) _
  have f0 := hXf.cell (k := 0) rfl
  have f1 := hXf.cell (k := 1) rfl
  have HXf := hid hXf
  have HXp := hid hXp
  have HB3 := hid hB3
  clear hXf hXp hB3
  go_enter Tryz.func16, Tryz.ntmps16
  go_wp2_with fail
  clear f0 f1
  have hz3 : ((w.alloc (.cells #[.slice a bs.length c, .int .i64 (A : Int), .int .i64 Wd, .int .i64 D] 30)).alloc (.cells #[.slice (Ar 0) (C 0).length (cp 0), .slice (Ar 1) (C 1).length (cp 1), .slice (Ar 2) (C 2).length (cp 2), .slice (Ar 3) (C 3).length (cp 3)] 32)).heap.size = w.heap.size + 1 + 1 := by simp
  generalize (w.alloc (.cells #[.slice a bs.length c, .int .i64 (A : Int), .int .i64 Wd, .int .i64 D] 30)).alloc (.cells #[.slice (Ar 0) (C 0).length (cp 0), .slice (Ar 1) (C 1).length (cp 1), .slice (Ar 2) (C 2).length (cp 2), .slice (Ar 3) (C 3).length (cp 3)] 32) = w3 at *
  rw [← hz3]
  clear hz3
  have HR0 := hid (show RcIn w3 w3 w3.heap.size (costsN n []) (w3.alloc (.cells ((costsN n []).map iv).toArray 3)) from ⟨below_new w3 _, by simp, fun b h1 h2 => (below_new w3 _).block b h1, Blk.new w3 _ _⟩)
  have HGl := hid (show w3.heap.size < w3.heap.size + 1 from Nat.lt_succ_self _)
  generalize w3.alloc (.cells ((costsN n []).map iv).toArray 3) = w4 at *
  go_loopg [7] n (fun gk i wr => ∃ r : Nat, gk = n - r ∧ r ≤ n ∧ i = .int .i64 ((n : Int) - 1 - (r : Int)) ∧ Hid (RcIn w3 w3 w3.heap.size (costsN n (tab C data ch n r)) wr))
  case atStart => exact ⟨0, rfl, Nat.zero_le _, by go_num, HR0⟩
  case round =>
    obtain ⟨r, hgk, hr, rfl, HI⟩ := hrel
    have HG := hid hgk
    clear hgk
    by_cases hlt : r < n
    · obtain ⟨i, hi⟩ : ∃ i : Nat, i = n - (r + 1) := ⟨_, rfl⟩
      have hiI : (n : Int) - 1 - (r : Int) = (i : Int) := by omega
      rw [hiI]
      have hin : i < n := by omega
      have Hi := hid hi
      clear hi hiI
      obtain ⟨b, hbb⟩ : ∃ b, data[i]? = some b := ⟨data[i]'(by rw [HN.out]; exact hin), by simp⟩
      have hbD : data.getD i 0 = b := by rw [List.getD_eq_getElem?_getD, hbb]; rfl
      have htl := tab_length C data ch n r
      have hcb0 := tab_bounds C data ch n HCk.out r 0
      have hlb := lit_bounds C HCk.out b
      have hcl : (costsN n (tab C data ch n r)).length = n + 1 := costsN_length (by omega)
      have hg0 := costsN_get (n := n) (t := tab C data ch n r) 0
      rw [htl, show n - r + 0 = i + 1 from by have := Hi.out; omega] at hg0
      obtain ⟨x0, hx0⟩ : ∃ x0, costAt (tab C data ch n r) 0 = x0 := ⟨_, rfl⟩
      obtain ⟨y0, hy0⟩ : ∃ y0, litsC C [b] = y0 := ⟨_, rfl⟩
      rw [hx0] at hg0 hcb0
      rw [hy0] at hlb
      have hcx : ((costsN n (tab C data ch n r)).map iv)[i + 1]? = some (.int .i64 x0) := by
        rw [List.getElem?_map, List.getElem?_eq_getElem (by omega)]
        rw [List.getD_eq_getElem?_getD, List.getElem?_eq_getElem (by omega), Option.getD_some] at hg0
        rw [hg0]
        rfl
      have HOf := hid (show ofS C data i (tab C data ch n r) ⟨0, 0, 0⟩ = y0 + x0 from by
        unfold ofS
        rw [if_pos rfl, hbD, hy0, hx0])
      have HBn := hid (And.intro hcb0 hlb)
      have HTl := hid (And.intro htl hcl)
      have hDc : ∀ W, Below w3.heap.size w3 W → Cs W (cutA (cutA a c A 1) (c - A) i 1) ([b].map bv) := fun W hW => by
        have h := cutA_cs (HDt.out W (HB3.out.trans (hW.mono HB3.out.size))) (c - A) i 1 (by rw [List.length_map, HN.out]; omega) 1
        rw [Nat.mul_one, ← List.map_drop, ← List.map_take, show (data.drop i).take 1 = [b] from by
          obtain ⟨h1, h2⟩ := List.getElem?_eq_some_iff.1 hbb
          rw [List.drop_eq_getElem_cons h1, h2]
          rfl] at h
        exact h
      have HLb := hid (fun W (hW : Below w3.heap.size w3 W) => HLi.out W (HB3.out.trans (hW.mono HB3.out.size)) _ (c - A - i) b (hDc W hW))
      rw [hy0] at HLb
      have hw1 : IntKind.i64.wrap ((i : Int) + 1) = (i : Int) + 1 := by rw [IntKind.wrap_i64]; omega
      have hw2 : IntKind.i64.wrap (y0 + x0) = y0 + x0 := by rw [IntKind.wrap_i64]; omega
      have hi0 : ¬ (i : Int) < 0 := by omega
      have hi01 : ¬ (i : Int) + 1 < 0 := by omega
      have hi2 : (i : Int) < (n : Int) + 1 := by omega
      have hi3 : (i : Int) + 1 < (n : Int) + 1 := by omega
      have hi4 : ((i : Int) + 1).toNat = i + 1 := by omega
      have hi5 : i < n + 1 := by omega
      have hge : (0 : Int) ≤ (i : Int) := by omega
      have hk1 := cut_u8_one (cutA a c A 1) n (c - A) i hin hcd
      have hk2 := cut_u8_oneAt (cutA a c A 1) n (c - A) i hin hcd
      clear hbD htl hcb0 hlb hcl hg0 hx0 hy0 hDc hbb
      go_wp2_with fail
      have hS6 := (show (fun W' => Below w3.heap.size w3 W' ∧ W'.cell? ⟨w3.heap.size, i + 1, none⟩ = some (.int .i64 x0) ∧ w3.heap.size < W'.heap.size) wr from ⟨HI.out.low, HI.out.c.cell hcx, HI.out.c.lt⟩)
      have HS6 := hid hS6
      refine wp_region_noPanic ?_
      refine wp_region_held_drew (S := (fun W' => Below w3.heap.size w3 W' ∧ W'.cell? ⟨w3.heap.size, i + 1, none⟩ = some (.int .i64 x0) ∧ w3.heap.size < W'.heap.size)) (by kernel_rfl) ⟨HI.out.low.drew, hS6.2⟩ (fun hHeld => ?_)
      have hbd : Below wr.heap.size wr wr.drew := (Below.refl _ _).drew
      have HI5 := hid (HI.out.on hbd)
      have hSd := (show (fun W' => Below w3.heap.size w3 W' ∧ W'.cell? ⟨w3.heap.size, i + 1, none⟩ = some (.int .i64 x0) ∧ w3.heap.size < W'.heap.size) wr.drew from ⟨HI.out.low.drew, hS6.2⟩)
      generalize wr.drew = wd at *
      clear hbd hS6
      refine wpAnyH_take (i := 0) (v := .slice (some ⟨w3.heap.size, 0, none⟩) (n + 1) (n + 1)) (by simp only [List.getElem?_toArray, List.getElem?_cons_zero]; rfl) (by kernel_rfl) (by kernel_rfl) (by kernel_rfl) (fun _ _ _ h => h) (Or.inl ⟨by rfl, fun W hSw => ?_⟩) (by assumption) ?_
      · clear hSw
        go_simp
      simp only [Act.put, List.setIfInBounds_toArray, List.set_cons_zero, List.set_cons_succ]
      refine wpAnyH_take (i := 1) (v := .int .i64 (i : Int)) (by simp only [List.getElem?_toArray, List.getElem?_cons_zero, List.getElem?_cons_succ]; rfl) (by kernel_rfl) (by kernel_rfl) (by kernel_rfl) (fun _ _ _ h => h) (Or.inl ⟨by rfl, fun W hSw => ?_⟩) (by assumption) ?_
      · clear hSw
        go_simp
      simp only [Act.put, List.setIfInBounds_toArray, List.set_cons_zero, List.set_cons_succ]
      refine wpAnyH_take (i := 2) (v := .agg #[.slice (Ar 0) (C 0).length (cp 0), .slice (Ar 1) (C 1).length (cp 1), .slice (Ar 2) (C 2).length (cp 2), .slice (Ar 3) (C 3).length (cp 3)]) (by simp only [List.getElem?_toArray, List.getElem?_cons_zero, List.getElem?_cons_succ]; rfl) (by kernel_rfl) (by kernel_rfl) (by kernel_rfl) (fun _ _ _ h => h) (Or.inl ⟨by rfl, fun W hSw => ?_⟩) (by assumption) ?_
      · have hP := HXp.out.below hSw.1 HXp.out.lt
        clear hSw
        have cc0 := hP.cell (k := 0) rfl
        have cc1 := hP.cell (k := 1) rfl
        have cc2 := hP.cell (k := 2) rfl
        have cc3 := hP.cell (k := 3) rfl
        clear hP
        go_simp
      simp only [Act.put, List.setIfInBounds_toArray, List.set_cons_zero, List.set_cons_succ]
      refine wpAnyH_take (i := 3) (v := .slice (cutA a c A 1) n (c - A)) (by simp only [List.getElem?_toArray, List.getElem?_cons_zero, List.getElem?_cons_succ]; rfl) (by kernel_rfl) (by kernel_rfl) (by kernel_rfl) (fun _ _ _ h => h) (Or.inl ⟨by rfl, fun W hSw => ?_⟩) (by assumption) ?_
      · clear hSw
        go_simp
      simp only [Act.put, List.setIfInBounds_toArray, List.set_cons_zero, List.set_cons_succ]
      refine wpAnyH_take (i := 4) (v := .int .i64 (i : Int)) (by simp only [List.getElem?_toArray, List.getElem?_cons_zero, List.getElem?_cons_succ]; rfl) (by kernel_rfl) (by kernel_rfl) (by kernel_rfl) (fun _ _ _ h => h) (Or.inl ⟨by rfl, fun W hSw => ?_⟩) (by assumption) ?_
      · clear hSw
        go_simp
      simp only [Act.put, List.setIfInBounds_toArray, List.set_cons_zero, List.set_cons_succ]
      refine wpAnyH_take (i := 5) (v := .int .i64 (i : Int)) (by simp only [List.getElem?_toArray, List.getElem?_cons_zero, List.getElem?_cons_succ]; rfl) (by kernel_rfl) (by kernel_rfl) (by kernel_rfl) (fun _ _ _ h => h) (Or.inl ⟨by rfl, fun W hSw => ?_⟩) (by assumption) ?_
      · clear hSw
        go_simp
      simp only [Act.put, List.setIfInBounds_toArray, List.set_cons_zero, List.set_cons_succ]
      refine wpAnyH_take (i := 6) (v := .int .i64 ((i : Int) + 1)) (by simp only [List.getElem?_toArray, List.getElem?_cons_zero, List.getElem?_cons_succ]; rfl) (by kernel_rfl) (by kernel_rfl) (by kernel_rfl) (fun _ _ _ h => h) (Or.inl ⟨by rfl, fun W hSw => ?_⟩) (by assumption) ?_
      · clear hSw
        go_simp
      simp only [Act.put, List.setIfInBounds_toArray, List.set_cons_zero, List.set_cons_succ]
      refine wpAnyH_take (i := 7) (v := .slice (cutA (cutA a c A 1) (c - A) i 1) 1 (c - A - i)) (by simp only [List.getElem?_toArray, List.getElem?_cons_zero, List.getElem?_cons_succ]; rfl) (by kernel_rfl) (by kernel_rfl) (by kernel_rfl) (fun _ _ _ h => h) (Or.inl ⟨by rfl, fun W hSw => ?_⟩) (by assumption) ?_
      · clear hSw
        go_simp
      simp only [Act.put, List.setIfInBounds_toArray, List.set_cons_zero, List.set_cons_succ]
      refine wpAnyH_take (i := 9) (v := .slice (some ⟨w3.heap.size, 0, none⟩) (n + 1) (n + 1)) (by simp only [List.getElem?_toArray, List.getElem?_cons_zero, List.getElem?_cons_succ]; rfl) (by kernel_rfl) (by kernel_rfl) (by kernel_rfl) (fun _ _ _ h => h) (Or.inl ⟨by rfl, fun W hSw => ?_⟩) (by assumption) ?_
      · clear hSw
        go_simp
      simp only [Act.put, List.setIfInBounds_toArray, List.set_cons_zero, List.set_cons_succ]
      refine wpAnyH_take (i := 10) (v := .int .i64 (i : Int)) (by simp only [List.getElem?_toArray, List.getElem?_cons_zero, List.getElem?_cons_succ]; rfl) (by kernel_rfl) (by kernel_rfl) (by kernel_rfl) (fun _ _ _ h => h) (Or.inl ⟨by rfl, fun W hSw => ?_⟩) (by assumption) ?_
      · clear hSw
        go_simp
      simp only [Act.put, List.setIfInBounds_toArray, List.set_cons_zero, List.set_cons_succ]
      refine wpAnyH_take (i := 11) (v := .int .i64 ((i : Int) + 1)) (by simp only [List.getElem?_toArray, List.getElem?_cons_zero, List.getElem?_cons_succ]; rfl) (by kernel_rfl) (by kernel_rfl) (by kernel_rfl) (fun _ _ _ h => h) (Or.inl ⟨by rfl, fun W hSw => ?_⟩) (by assumption) ?_
      · clear hSw
        go_simp
      simp only [Act.put, List.setIfInBounds_toArray, List.set_cons_zero, List.set_cons_succ]
      refine wpAnyH_take (i := 12) (v := .pointer (some ⟨w3.heap.size, i + 1, none⟩)) (by simp only [List.getElem?_toArray, List.getElem?_cons_zero, List.getElem?_cons_succ]; rfl) (by kernel_rfl) (by kernel_rfl) (by kernel_rfl) (fun _ _ _ h => h) (Or.inl ⟨by rfl, fun W hSw => ?_⟩) (by assumption) ?_
      · clear hSw
        go_simp
      simp only [Act.put, List.setIfInBounds_toArray, List.set_cons_zero, List.set_cons_succ]
      refine wpAnyH_take (i := 13) (v := .int .i64 x0) (by simp only [List.getElem?_toArray, List.getElem?_cons_zero, List.getElem?_cons_succ]; rfl) (by kernel_rfl) (by kernel_rfl) (by kernel_rfl) (fun _ _ _ h => h) (Or.inl ⟨by rfl, fun W hSw => ?_⟩) (by assumption) ?_
      · have cc := hSw.2.1
        clear hSw
        go_simp
      simp only [Act.put, List.setIfInBounds_toArray, List.set_cons_zero, List.set_cons_succ]
      refine wpAnyH_ready (rs := [8]) (by kernel_rfl) (by simp) ?_
      refine AllReadyH.cons (by simp only [List.getElem?_toArray, List.getElem?_cons_zero, List.getElem?_cons_succ]; rfl) (fun K hK => ?_) AllReadyH.nil
      rw [if_pos (by rfl)]
      go_simp
      go_at_call 37
      refine (HLb.out _ HI5.out.low).mono ?_
      rintro e w6 ⟨rfl, hb6⟩
      have HI6 := hid (HI5.out.on hb6)
      have hS7 := (show (fun W' => Below w3.heap.size w3 W' ∧ W'.cell? ⟨w3.heap.size, i + 1, none⟩ = some (.int .i64 x0) ∧ w3.heap.size < W'.heap.size) w6 from ⟨HI6.out.low, HI6.out.c.cell hcx, HI6.out.c.lt⟩)
      dsimp only
      refine hK.out _ _ hS7 (fun _ => ?_)
      clear hK K hb6 hSd
      refine wpAnyH_take (i := 14) (v := .int .i64 (y0 + x0)) (by simp only [List.getElem?_toArray, List.getElem?_cons_zero, List.getElem?_cons_succ]; rfl) (by kernel_rfl) (by kernel_rfl) (by kernel_rfl) (fun _ _ _ h => h) (Or.inl ⟨by rfl, fun W hSw => ?_⟩) (by assumption) ?_
      · clear hSw
        go_simp
      simp only [Act.put, List.setIfInBounds_toArray, List.set_cons_zero, List.set_cons_succ]
      refine wpAnyH_take (i := 15) (v := .pointer (some ⟨w3.heap.size, i, none⟩)) (by simp only [List.getElem?_toArray, List.getElem?_cons_zero, List.getElem?_cons_succ]; rfl) (by kernel_rfl) (by kernel_rfl) (by kernel_rfl) (fun _ _ _ h => h) (Or.inl ⟨by rfl, fun W hSw => ?_⟩) (by assumption) ?_
      · clear hSw
        go_simp
      simp only [Act.put, List.setIfInBounds_toArray, List.set_cons_zero, List.set_cons_succ]
      obtain ⟨z6, hz6⟩ : ∃ z, ((costsN n (tab C data ch n r)).map iv)[i]? = some z := ⟨_, List.getElem?_eq_getElem (by rw [List.length_map, HTl.out.2]; exact hi5)⟩
      have hcz := HI6.out.c.cell hz6
      have hf6 := HI6.out.c.frozen i
      have HI7 := hid (HI6.out.store (Nat.le_refl _) i (y0 + x0))
      refine wpAnyH_ready (rs := [16]) (by kernel_rfl) (by simp) ?_
      refine AllReadyH.cons (by simp only [List.getElem?_toArray, List.getElem?_cons_zero, List.getElem?_cons_succ]; rfl) (fun K hK => ?_) AllReadyH.nil
      rw [if_pos (by rfl)]
      go_simp
      refine hK.out _ _ ⟨HI7.out.low, HI7.out.c.cell (k := i + 1) (by rw [List.map_set, List.getElem?_set_ne (by omega)]; exact hcx), HI7.out.c.lt⟩ (fun _ => ?_)
      clear hK K
      refine wpAnyH_done (by kernel_rfl) ?_ _
      refine NoPanic.normal ?_
      clear hcz hf6 hz6 z6 hS7 hk1 hk2
      generalize w6.setCell ⟨w3.heap.size, i, none⟩ (.int .i64 (y0 + x0)) = w7 at *
      have hXf := HXf.out.below HI7.out.low HXf.out.lt
      have f0 := hXf.cell (k := 0) rfl
      have f1 := hXf.cell (k := 1) rfl
      have f2 := hXf.cell (k := 2) rfl
      have f3 := hXf.cell (k := 3) rfl
      clear hXf
      go_wp2_with fail
      refine (HSt2.out _ _ (HB3.out.trans (HI7.out.low.mono HB3.out.size))).mono ?_
      rintro e w8 ⟨v, rfl, hown, hb8⟩
      obtain ⟨al, cl, rfl⟩ := own_slice hown
      have hG7 := HI7.out.c.lt
      have HL8 := hid (own_rows hown).1
      have HLn := hid (show ∀ x, al = some x → x.block ≠ w3.heap.size from fun x hx => by
        have := (own_rows hown).2 x hx
        omega)
      have HI8 := hid ((HI7.out.on hb8).new)
      have HM := hid (show ∀ s ∈ ch (i : Int), 3 ≤ s.len ∧ (i : Int) + s.len ≤ n ∧ 1 ≤ s.off ∧ s.off ≤ 134217728 from fun s hs => by
        obtain ⟨_, _, h1, h2, h3, h4⟩ := HCh.out.inn _ s hs
        exact ⟨h1, h2, h3, h4⟩)
      have hll := HLo.out (i : Int)
      clear hown hb8 f0 f1 f2 f3 hG7 HI7 HI6 HI5 HI HS6 hcx
      have HFin := hid (show ∀ v, v = (ch (i : Int)).foldl (fun m y => min m (ofS C data i (tab C data ch n r) y)) (y0 + x0) → (costsN n (tab C data ch n r)).set i v = costsN n (tab C data ch n (r + 1)) from fun v hv => by
        have hi := Hi.out
        have h5 := (leastP_all (ofS C data i (tab C data ch n r)) ⟨0, 0, 0⟩ (ch (i : Int))).2.2.2.2
        rw [HOf.out] at h5
        rw [← h5] at hv
        subst hv
        have h6 := costsN_set (n := n) (t := tab C data ch n r) (s := (leastP (ofS C data i (tab C data ch n r)) ⟨0, 0, 0⟩ (ch (i : Int))).1) (v := (leastP (ofS C data i (tab C data ch n r)) ⟨0, 0, 0⟩ (ch (i : Int))).2) (by rw [HTl.out.1]; exact hlt)
        rw [HTl.out.1, ← hi] at h6
        rw [h6, show tab C data ch n (r + 1) = leastP (ofS C data (n - (r + 1)) (tab C data ch n r)) ⟨0, 0, 0⟩ (ch ((n - (r + 1) : Nat) : Int)) :: tab C data ch n r from rfl, ← hi])
      obtain ⟨l, hl⟩ : ∃ l, ch (i : Int) = l := ⟨_, rfl⟩
      rw [hl] at HL8 HM HFin hll ⊢
      clear hl
      obtain ⟨m, hm⟩ : ∃ m, l.length = m := ⟨_, rfl⟩
      have Hm := hid hm
      rw [hm] at hll ⊢
      clear hm
      go_wp2
      go_loopg [9] m (fun gm k w9 => ∃ j : Nat, gm = m - j ∧ j ≤ m ∧ k = .int .i64 (j : Int) ∧ Hid (RcIn w3 w8 w3.heap.size ((costsN n (tab C data ch n r)).set i ((l.take j).foldl (fun m y => min m (ofS C data i (tab C data ch n r) y)) (y0 + x0))) w9))
      case atStart => exact ⟨0, rfl, Nat.zero_le _, rfl, hid HI8.out⟩
      case round =>
        obtain ⟨j, hgm, hj, rfl, HJ⟩ := hrel
        have HGm := hid hgm
        clear hgm
        by_cases hjm : j < m
        · obtain ⟨⟨sl, sn, so⟩, hs⟩ : ∃ s, l[j]? = some s := ⟨l[j]'(by rw [Hm.out]; exact hjm), by simp⟩
          obtain ⟨g1, g2, g3, g4⟩ := HM.out _ (List.mem_of_getElem? hs)
          dsimp only at g1 g2 g3 g4
          obtain ⟨L, hL⟩ : ∃ L : Nat, sn = (L : Int) := ⟨sn.toNat, by omega⟩
          subst hL
          have hLc := HJ.out.cs HL8.out HLn.out
          obtain ⟨bl, off, rfl, hb0, c1⟩ := hLc (j * 3 + 1) (.int .i64 (L : Int)) (by rw [sqc_get hs 1 (by omega)]; rfl)
          obtain ⟨_, _, e2, _, c2⟩ := hLc (j * 3 + 2) (.int .i64 so) (by rw [sqc_get hs 2 (by omega)]; rfl)
          cases e2
          rw [← Nat.add_assoc] at c1 c2
          obtain ⟨x, hx, hx0, hx1⟩ := step_some C HCk.out (len := (L : Int)) (off := so) ⟨by omega, by omega, by omega, by omega⟩
          obtain ⟨z, hz⟩ : ∃ z, costAt (tab C data ch n r) (L - 1) = z := ⟨_, rfl⟩
          have hzb := tab_bounds C data ch n HCk.out r (L - 1)
          rw [hz] at hzb
          have hzg := costsN_get (n := n) (t := tab C data ch n r) (L - 1)
          rw [HTl.out.1, hz, show n - r + (L - 1) = i + L from by have := Hi.out; omega] at hzg
          have hof : ofS C data i (tab C data ch n r) ⟨sl, (L : Int), so⟩ = x + z := by
            unfold ofS
            rw [if_neg (by dsimp only; omega)]
            dsimp only
            rw [hx, show ((L : Int) - 1).toNat = L - 1 from by omega, hz]
            rfl
          have htk : (l.take (j + 1)).foldl (fun m y => min m (ofS C data i (tab C data ch n r) y)) (y0 + x0) = min ((l.take j).foldl (fun m y => min m (ofS C data i (tab C data ch n r) y)) (y0 + x0)) (x + z) := by
            rw [List.take_add_one, hs, List.foldl_append]
            show min _ (ofS C data i (tab C data ch n r) ⟨sl, (L : Int), so⟩) = _
            rw [hof]
          have HTk := hid htk
          have HJj := HJ
          generalize (l.take j).foldl (fun m y => min m (ofS C data i (tab C data ch n r) y)) (y0 + x0) = mj at *
          have hgi : (((costsN n (tab C data ch n r)).set i mj).map iv)[i]? = some (.int .i64 mj) := by
            rw [List.getElem?_map, List.getElem?_set_self (by rw [HTl.out.2]; exact hi5)]
            rfl
          have hgl : (((costsN n (tab C data ch n r)).set i mj).map iv)[i + L]? = some (.int .i64 z) := by
            rw [List.getElem?_map, List.getElem?_set_ne (by omega), List.getElem?_eq_getElem (by rw [HTl.out.2]; omega)]
            rw [List.getD_eq_getElem?_getD, List.getElem?_eq_getElem (by rw [HTl.out.2]; omega), Option.getD_some] at hzg
            rw [hzg]
            rfl
          have HX := hid hx
          have HSs := hid (fun W (hW : Below w3.heap.size w3 W) => show Calls Tryz.prog 38 #[.agg #[.slice (Ar 0) (C 0).length (cp 0), .slice (Ar 1) (C 1).length (cp 1), .slice (Ar 2) (C 2).length (cp 2), .slice (Ar 3) (C 3).length (cp 3)], .int .i64 (L : Int), .int .i64 so] W (RetV W (.tuple #[.int .i64 x, .int .i64 0])) from by
            have h := HSp.out W (HB3.out.trans (hW.mono HB3.out.size)) (L : Int) so (by omega) (by omega)
            rw [HX.out] at h
            exact h)
          have hjI : (j : Int) < (m : Int) := by omega
          have hj0 : ¬ (j : Int) < 0 := by omega
          have hw3 : IntKind.i64.wrap ((i : Int) + (L : Int)) = (i : Int) + (L : Int) := by rw [IntKind.wrap_i64]; omega
          have hw4 : IntKind.i64.wrap (x + z) = x + z := by rw [IntKind.wrap_i64]; omega
          have hl1 : ¬ ((i : Int) + (L : Int) < 0) := by omega
          have hl2 : (i : Int) + (L : Int) < (n : Int) + 1 := by omega
          have hl3 : ((i : Int) + (L : Int)).toNat = i + L := by omega
          have hl4 : i + L < n + 1 := by omega
          clear hx hz hzb hzg hof htk hLc hs g1 g2 g3 g4 hx0 hx1
          go_wp2_with fail
          refine wp_region_noPanic ?_
          refine wp_region_held_drew (S := (fun W' => Below wr.heap.size wr W')) (by kernel_rfl) (Below.refl _ _).drew (fun hHeld => ?_)
          have hbd : Below wr.heap.size wr wr.drew := (Below.refl _ _).drew
          generalize wr.drew = wd at *
          refine wpAnyH_take (i := 0) (v := .agg #[.slice (Ar 0) (C 0).length (cp 0), .slice (Ar 1) (C 1).length (cp 1), .slice (Ar 2) (C 2).length (cp 2), .slice (Ar 3) (C 3).length (cp 3)]) (by simp only [List.getElem?_toArray, List.getElem?_cons_zero]; rfl) (by kernel_rfl) (by kernel_rfl) (by kernel_rfl) (fun _ _ _ h => h) (Or.inl ⟨by rfl, fun W hSw => ?_⟩) (by assumption) ?_
          · have hP := HXp.out.below (HJ.out.low.trans (hSw.mono HJ.out.low.size)) HXp.out.lt
            clear hSw
            have cc0 := hP.cell (k := 0) rfl
            have cc1 := hP.cell (k := 1) rfl
            have cc2 := hP.cell (k := 2) rfl
            have cc3 := hP.cell (k := 3) rfl
            clear hP
            go_simp
          simp only [Act.put, List.setIfInBounds_toArray, List.set_cons_zero, List.set_cons_succ]
          refine wpAnyH_take (i := 1) (v := .slice (some ⟨bl, off, none⟩) m cl) (by simp only [List.getElem?_toArray, List.getElem?_cons_zero, List.getElem?_cons_succ]; rfl) (by kernel_rfl) (by kernel_rfl) (by kernel_rfl) (fun _ _ _ h => h) (Or.inl ⟨by rfl, fun W hSw => ?_⟩) (by assumption) ?_
          · clear hSw
            go_simp
          simp only [Act.put, List.setIfInBounds_toArray, List.set_cons_zero, List.set_cons_succ]
          refine wpAnyH_take (i := 2) (v := .int .i64 (j : Int)) (by simp only [List.getElem?_toArray, List.getElem?_cons_zero, List.getElem?_cons_succ]; rfl) (by kernel_rfl) (by kernel_rfl) (by kernel_rfl) (fun _ _ _ h => h) (Or.inl ⟨by rfl, fun W hSw => ?_⟩) (by assumption) ?_
          · clear hSw
            go_simp
          simp only [Act.put, List.setIfInBounds_toArray, List.set_cons_zero, List.set_cons_succ]
          refine wpAnyH_take (i := 3) (v := .pointer (some ⟨bl, off + j * 3, none⟩)) (by simp only [List.getElem?_toArray, List.getElem?_cons_zero, List.getElem?_cons_succ]; rfl) (by kernel_rfl) (by kernel_rfl) (by kernel_rfl) (fun _ _ _ h => h) (Or.inl ⟨by rfl, fun W hSw => ?_⟩) (by assumption) ?_
          · clear hSw
            go_simp
          simp only [Act.put, List.setIfInBounds_toArray, List.set_cons_zero, List.set_cons_succ]
          refine wpAnyH_take (i := 4) (v := .pointer (some ⟨bl, off + j * 3 + 1, none⟩)) (by simp only [List.getElem?_toArray, List.getElem?_cons_zero, List.getElem?_cons_succ]; rfl) (by kernel_rfl) (by kernel_rfl) (by kernel_rfl) (fun _ _ _ h => h) (Or.inl ⟨by rfl, fun W hSw => ?_⟩) (by assumption) ?_
          · clear hSw
            go_simp
          simp only [Act.put, List.setIfInBounds_toArray, List.set_cons_zero, List.set_cons_succ]
          refine wpAnyH_take (i := 5) (v := .int .i64 (L : Int)) (by simp only [List.getElem?_toArray, List.getElem?_cons_zero, List.getElem?_cons_succ]; rfl) (by kernel_rfl) (by kernel_rfl) (by kernel_rfl) (fun _ _ _ h => h) (Or.inl ⟨by rfl, fun W hSw => ?_⟩) (by assumption) ?_
          · have cc := (hSw.cell (p := ⟨bl, off + j * 3 + 1, none⟩) hb0).trans c1
            clear hSw
            go_simp
          simp only [Act.put, List.setIfInBounds_toArray, List.set_cons_zero, List.set_cons_succ]
          refine wpAnyH_take (i := 6) (v := .slice (some ⟨bl, off, none⟩) m cl) (by simp only [List.getElem?_toArray, List.getElem?_cons_zero, List.getElem?_cons_succ]; rfl) (by kernel_rfl) (by kernel_rfl) (by kernel_rfl) (fun _ _ _ h => h) (Or.inl ⟨by rfl, fun W hSw => ?_⟩) (by assumption) ?_
          · clear hSw
            go_simp
          simp only [Act.put, List.setIfInBounds_toArray, List.set_cons_zero, List.set_cons_succ]
          refine wpAnyH_take (i := 7) (v := .int .i64 (j : Int)) (by simp only [List.getElem?_toArray, List.getElem?_cons_zero, List.getElem?_cons_succ]; rfl) (by kernel_rfl) (by kernel_rfl) (by kernel_rfl) (fun _ _ _ h => h) (Or.inl ⟨by rfl, fun W hSw => ?_⟩) (by assumption) ?_
          · clear hSw
            go_simp
          simp only [Act.put, List.setIfInBounds_toArray, List.set_cons_zero, List.set_cons_succ]
          refine wpAnyH_take (i := 8) (v := .pointer (some ⟨bl, off + j * 3, none⟩)) (by simp only [List.getElem?_toArray, List.getElem?_cons_zero, List.getElem?_cons_succ]; rfl) (by kernel_rfl) (by kernel_rfl) (by kernel_rfl) (fun _ _ _ h => h) (Or.inl ⟨by rfl, fun W hSw => ?_⟩) (by assumption) ?_
          · clear hSw
            go_simp
          simp only [Act.put, List.setIfInBounds_toArray, List.set_cons_zero, List.set_cons_succ]
          refine wpAnyH_take (i := 9) (v := .pointer (some ⟨bl, off + j * 3 + 2, none⟩)) (by simp only [List.getElem?_toArray, List.getElem?_cons_zero, List.getElem?_cons_succ]; rfl) (by kernel_rfl) (by kernel_rfl) (by kernel_rfl) (fun _ _ _ h => h) (Or.inl ⟨by rfl, fun W hSw => ?_⟩) (by assumption) ?_
          · clear hSw
            go_simp
          simp only [Act.put, List.setIfInBounds_toArray, List.set_cons_zero, List.set_cons_succ]
          refine wpAnyH_take (i := 10) (v := .int .i64 so) (by simp only [List.getElem?_toArray, List.getElem?_cons_zero, List.getElem?_cons_succ]; rfl) (by kernel_rfl) (by kernel_rfl) (by kernel_rfl) (fun _ _ _ h => h) (Or.inl ⟨by rfl, fun W hSw => ?_⟩) (by assumption) ?_
          · have cc := (hSw.cell (p := ⟨bl, off + j * 3 + 2, none⟩) hb0).trans c2
            clear hSw
            go_simp
          simp only [Act.put, List.setIfInBounds_toArray, List.set_cons_zero, List.set_cons_succ]
          refine wpAnyH_ready (rs := [11]) (by kernel_rfl) (by simp) ?_
          refine AllReadyH.cons (by simp only [List.getElem?_toArray, List.getElem?_cons_zero, List.getElem?_cons_succ]; rfl) (fun K hK => ?_) AllReadyH.nil
          rw [if_pos (by rfl)]
          go_simp
          go_at_call 38
          refine (HSs.out _ (HJ.out.low.trans (hbd.mono HJ.out.low.size))).mono ?_
          rintro e w10 ⟨rfl, hb10⟩
          have hbe := hbd.trans (hb10.mono hbd.size)
          dsimp only
          refine hK.out _ _ hbe (fun _ => ?_)
          clear hK K hb10 hbd
          refine wpAnyH_take (i := 12) (v := .tuple #[.int .i64 x, .int .i64 0]) (by simp only [List.getElem?_toArray, List.getElem?_cons_zero, List.getElem?_cons_succ]; rfl) (by kernel_rfl) (by kernel_rfl) (by kernel_rfl) (fun _ _ _ h => h) (Or.inl ⟨by rfl, fun W hSw => ?_⟩) (by assumption) ?_
          · clear hSw
            go_simp
          simp only [Act.put, List.setIfInBounds_toArray, List.set_cons_zero, List.set_cons_succ]
          refine wpAnyH_take (i := 13) (v := .int .i64 x) (by simp only [List.getElem?_toArray, List.getElem?_cons_zero, List.getElem?_cons_succ]; rfl) (by kernel_rfl) (by kernel_rfl) (by kernel_rfl) (fun _ _ _ h => h) (Or.inl ⟨by rfl, fun W hSw => ?_⟩) (by assumption) ?_
          · clear hSw
            go_simp
          simp only [Act.put, List.setIfInBounds_toArray, List.set_cons_zero, List.set_cons_succ]
          refine wpAnyH_take (i := 14) (v := .int .i64 0) (by simp only [List.getElem?_toArray, List.getElem?_cons_zero, List.getElem?_cons_succ]; rfl) (by kernel_rfl) (by kernel_rfl) (by kernel_rfl) (fun _ _ _ h => h) (Or.inl ⟨by rfl, fun W hSw => ?_⟩) (by assumption) ?_
          · clear hSw
            go_simp
          simp only [Act.put, List.setIfInBounds_toArray, List.set_cons_zero, List.set_cons_succ]
          refine wpAnyH_ready (rs := [15]) (by kernel_rfl) (by simp) ?_
          refine AllReadyH.cons (by simp only [List.getElem?_toArray, List.getElem?_cons_zero, List.getElem?_cons_succ]; rfl) (fun K hK => ?_) AllReadyH.nil
          rw [if_pos (by rfl)]
          go_simp
          refine hK.out _ _ hbe (fun _ => ?_)
          clear hK K
          refine wpAnyH_ready (rs := [16]) (by kernel_rfl) (by simp) ?_
          refine AllReadyH.cons (by simp only [List.getElem?_toArray, List.getElem?_cons_zero, List.getElem?_cons_succ]; rfl) (fun K hK => ?_) AllReadyH.nil
          rw [if_pos (by rfl)]
          go_simp
          refine hK.out _ _ hbe (fun _ => ?_)
          clear hK K
          refine wpAnyH_done (by kernel_rfl) ?_ _
          refine NoPanic.normal ?_
          have HK := hid (HJ.out.on hbe)
          have c3 := (hbe.cell (p := ⟨bl, off + j * 3 + 1, none⟩) hb0).trans c1
          have c4 := HK.out.c.cell hgi
          have c5 := HK.out.c.cell hgl
          clear c1 c2 hbe hb0 hgi hgl
          go_wp2_with fail
          go_still_tail 20, (by kernel_rfl)
          change wpList _ _ _ _ _ w10.drew
          have HKd := hid (HK.out.on (Below.refl w10.heap.size w10).drew)
          have c6 := HKd.out.c.frozen i
          obtain ⟨z9, hz9⟩ : ∃ z, (((costsN n (tab C data ch n r)).set i mj).map iv)[i]? = some z := ⟨_, List.getElem?_eq_getElem (by rw [List.length_map, List.length_set, HTl.out.2]; exact hi5)⟩
          have c7 := HKd.out.c.cell hz9
          clear c3 c4 c5 HK hz9
          generalize w10.drew = w11 at *
          have HS := hid (HKd.out.store (Nat.le_refl _) i (min mj (x + z)))
          have hwj : IntKind.i64.wrap ((j : Int) + 1) = (j : Int) + 1 := by rw [IntKind.wrap_i64]; omega
          go_wp2
          go_roundg (m - (j + 1))
          case rel =>
            refine ⟨j + 1, rfl, hjm, by go_num, hid ?_⟩
            have hs := HS.out
            rw [List.set_set] at hs
            rw [HTk.out]
            exact hs
          case measure => have := HGm.out; omega
        · obtain rfl : j = m := by omega
          have hJ2 := HJ.out
          rw [List.take_of_length_le (by rw [Hm.out]; exact Nat.le_refl _), HFin.out _ rfl] at hJ2
          have HJ2 := hid hJ2
          have hwi : IntKind.i64.wrap ((i : Int) - 1) = (i : Int) - 1 := by rw [IntKind.wrap_i64]; omega
          have HIe := hid (show (i : Int) - 1 = (n : Int) - 1 - ((r + 1 : Nat) : Int) from by have := Hi.out; omega)
          clear hJ2
          go_wp2
          go_roundg (n - (r + 1))
          case rel => exact ⟨r + 1, rfl, hlt, by rw [HIe.out], hid HJ2.out.old⟩
          case measure => have := HG.out; omega
    · obtain rfl : r = n := by omega
      rw [show (r : Int) - 1 - (r : Int) = -1 from by omega]
      have hc := HI.out.c
      rw [costsN_all (tab_length C data ch r r)] at hc
      have HC9 := hid hc
      clear hc
      go_wp2
      go_ret
      exact ⟨w3.heap.size, rfl, HB3.out.size, HC9.out, HB3.out.trans (HI.out.low.mono HB3.out.size)⟩
end Go.Proofs.YtiagbejfghincaaGreat
