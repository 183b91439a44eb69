/-
  The walks of layer 29, first part: slices.Grow and slices.Concat. The walks of layer 29, second part: New; a finder in memory. The walks of layer 29: New with invalid arguments. The walks of layer 29, third part: the small methods of a finder. The walks of layer 29, fourth part: the candidates are gathered. The walks of layer 29, fifth part: the candidates of a position; the match found.
-/
import Derived.Test.YtlgablepckmogaaGreatQ05
import Derived.Test.YtlgablepckmogaaGreatQ07
import Derived.Lib.AppendZeros
import Derived.LoopN
import Derived.Sort.QuietIn
namespace Go.Proofs.YtlgablepckmogaaGreat
open Go.RowKit Go.Port
set_option maxHeartbeats 800000 in
set_option maxRecDepth 100000 in
theorem xgrow_any (n : Nat) (w : World) (hn : n ≤ 10000000) :
    Calls Tryz.prog 34 #[.slice none 0 0, .int .i64 n] w fun e w' => ∃ v, e = .returned v ∧ w'.ownsRow w.heap.size 5 1 v 0 [] ∧ Below w.heap.size w w' := by
  by_cases h0 : n = 0
  · subst h0
    go_enter Tryz.func34, Tryz.ntmps34
    go_wp2
    go_ret
    exact ⟨_, rfl, World.ownsRow_nil _ _ _ _, Below.refl _ _⟩
  · have hp : 0 < (n : Int) := by omega
    obtain ⟨i0, hi0, hz0, hz1, hz2⟩ := info_parts Tryz.info_byte
    have hrun := Lib.run_append_nil_zeros (P := Tryz.prog) w 22 3 22 5 i0 (.int .u8 0) .i64 .i64 Tryz.underlying22 Tryz.underlying3 hi0 hz0 n (by omega) (by omega) (by omega) (by rw [hz2]; omega)
    have hge := grownCap_ge w n 0 5
    have hle := grownCap_le_maxLen w n 0 5 (by unfold maxLen; omega)
    generalize hcap : grownCap w n 0 5 = cap at *
    have hmx : cap ≤ 2 ^ 63 - 1 := by unfold maxLen at hle; exact hle
    have hcl : (cap : Int) ≤ 9223372036854775807 := by omega
    have hown : (w.drew.alloc (.cells (Builtin.zeroCells (Value.int .u8 0).cells n ++ Builtin.zeroCells (Value.int .u8 0).cells (cap - n)) 5)).ownsRow w.heap.size 5 1 (.slice (some ⟨w.heap.size, 0, none⟩) 0 cap) 0 [] := by
      refine ⟨rfl, .inr ⟨w.heap.size, cap, _, rfl, Nat.le_refl _, World.alloc_heap_new w.drew _, Nat.zero_le _, hle, ?_, by simp⟩⟩
      simp [Builtin.zeroCells, Value.cells]
      omega
    have HO := hid hown
    have HB := hid (show Below w.heap.size w (w.drew.alloc (.cells (Builtin.zeroCells (Value.int .u8 0).cells n ++ Builtin.zeroCells (Value.int .u8 0).cells (cap - n)) 5)) from (Below.refl _ _).drew.alloc (Nat.le_refl _) _)
    generalize (Obj.cells (Builtin.zeroCells (Value.int .u8 0).cells n ++ Builtin.zeroCells (Value.int .u8 0).cells (cap - n)) 5) = ob at *
    have HRun := hid hrun
    have hpc : 0 < (cap : Int) := by omega
    have hnI : (n : Int) ≤ 10000000 := by omega
    clear hrun hi0 hz0 hz1 hz2 hle hcap hown hmx hge hn h0
    go_enter Tryz.func34, Tryz.ntmps34
    go_wp2_with (at_builtin; refine Lib.wpList_append_run _ rfl _ _ _ _ rfl _ _ rfl rfl _ _ HRun.out ?_)
    go_ret
    exact ⟨_, rfl, HO.out, HB.out⟩
set_option maxRecDepth 100000 in
set_option maxHeartbeats 2000000 in
theorem xconcat_any (p : Nat) (a1 a2 : Option Addr) (c1 c2 : Nat) (A B : List UInt8) (w : World) (hA : A.length ≤ 1000000) (hB : B.length ≤ 1000000) (h1 : A.length ≤ c1) (h2 : B.length ≤ c2) (h3 : a1 = none → c1 = 0) (h4 : a2 = none → c2 = 0)
    (hp : Blk w p [.slice a1 A.length c1, .slice a2 B.length c2] 22) (hc1 : CellsAt w a1 (A.map bv)) (hc2 : CellsAt w a2 (B.map bv)) :
    Calls Tryz.prog 14 #[.slice (some ⟨p, 0, none⟩) 2 2] w fun e w' => ∃ v, e = .returned v ∧ w'.ownsRow w.heap.size 5 1 v (A ++ B).length ((A ++ B).map bv) ∧ Below w.heap.size w w' := by
  have p0 := hp.cell (k := 0) rfl
  have p1 := hp.cell (k := 1) rfl
  have HP := hid hp
  have HG := hid (xgrow_any (A.length + B.length) w (by omega))
  have HC1 := hid hc1
  have HC2 := hid hc2
  have hAI : (A.length : Int) ≤ 1000000 := by omega
  have hBI : (B.length : Int) ≤ 1000000 := by omega
  clear hp hc1 hc2 hA hB
  go_enter Tryz.func14, Tryz.ntmps14
  go_wp2_with fail
  refine wp_loop_rounds 3 ?_
  rw [rounds_succ]
  go_wp2_with fail
  rw [rounds_succ]
  go_wp2_with fail
  rw [rounds_succ]
  go_wp2_with fail
  clear p0 p1
  refine HG.out.mono ?_
  rintro e w1 ⟨v1, rfl, hown1, hb1⟩
  have hp1 := HP.out.below hb1 HP.out.lt
  have q0 := hp1.cell (k := 0) rfl
  have q1 := hp1.cell (k := 1) rfl
  have HP1 := hid hp1
  have HO1 := hid hown1
  have HB1 := hid hb1
  have HD1 := hid (HC1.out.low hb1)
  have hs1 : w.heap.size ≤ w1.heap.size := hb1.size
  clear hp1 hown1 hb1
  obtain ⟨g1, k1, rfl⟩ := own_slice HO1.out
  go_wp2_with fail
  refine wp_loop_rounds 3 ?_
  rw [rounds_succ]
  go_wp2_with (at_builtin; refine Hid.out ?_)
  refine hid ?_
  refine wpList_appendsK rfl _ _ 22 rfl 5 _ 1 1 Tryz.underlying22 Tryz.info_byte rfl (by decide) (by decide) w1 w.heap.size _ 0 A.length c1 a1 [] (A.map bv) (by simp) ?hu rfl rfl h1 h3 (by exact HD1.out) (by exact HO1.out) ?hn hs1 ?hk
  case hu =>
    intro u hu
    obtain ⟨x, _, rfl⟩ := List.mem_map.1 hu
    rfl
  case hn => omega
  case hk =>
    intro v2 w2 hown2 hg2
    rw [List.nil_append, Nat.zero_add] at hown2
    have hb2 := HB1.out.trans (below_grown HO1.out hg2 hs1)
    have hp2 := HP.out.below hb2 HP.out.lt
    have q1 := hp2.cell (k := 1) rfl
    have HO2 := hid hown2
    have HB2 := hid hb2
    have HD2 := hid (HC2.out.low hb2)
    have hs2 : w.heap.size ≤ w2.heap.size := hb2.size
    clear hp2 hown2 hb2 hg2
    obtain ⟨g2, k2, rfl⟩ := own_slice HO2.out
    go_wp2_with fail
    rw [rounds_succ]
    go_wp2_with (at_builtin; refine Hid.out ?_)
    refine hid ?_
    refine wpList_appendsK rfl _ _ 22 rfl 5 _ 1 1 Tryz.underlying22 Tryz.info_byte rfl (by decide) (by decide) w2 w.heap.size _ A.length B.length c2 a2 (A.map bv) (B.map bv) (by simp) ?hu2 rfl rfl h2 h4 (by exact HD2.out) (by exact HO2.out) ?hn2 hs2 ?hk2
    case hu2 =>
      intro u hu
      obtain ⟨x, _, rfl⟩ := List.mem_map.1 hu
      rfl
    case hn2 => omega
    case hk2 =>
      intro v3 w3 hown3 hg3
      have HB3 := hid (HB2.out.trans (below_grown HO2.out hg3 hs2))
      have HO3 := hid hown3
      clear hown3 hg3
      go_wp2_with fail
      rw [rounds_succ]
      go_wp2_with fail
      go_ret
      refine ⟨_, rfl, ?_, HB3.out⟩
      rw [List.map_append, List.length_append]
      exact HO3.out
end Go.Proofs.YtlgablepckmogaaGreat
namespace Go.Port
open Go.RowKit
/-- The finder of bytes bs (A of them history), window W, depth D lies at F. -/
structure FdAt (tf tix : TypeId) (bs : List UInt8) (A : Nat) (W D : Int) (F : Nat) (w : World) : Prop where
  ex : ∃ X va ca, Blk w F [.pointer (some ⟨X, 0, none⟩), .slice va bs.length ca, .int .i64 (A : Int), .int .i64 W, .int .i64 D] tf ∧ IxAt tix bs X w ∧ bs.length ≤ ca ∧ (va = none → ca = 0) ∧ CellsAt w va (bs.map bv)
  hA : A ≤ bs.length
  hn : bs.length ≤ 1000000
  hW : 1 ≤ W ∧ W ≤ 134217728
  hD : 1 ≤ D ∧ D ≤ 4096
theorem FdAt.low {tf tix : TypeId} {bs : List UInt8} {A : Nat} {W D : Int} {F : Nat} {w w' : World} (h : FdAt tf tix bs A W D F w) (hb : Below w.heap.size w w') : FdAt tf tix bs A W D F w' := by
  obtain ⟨X, va, ca, h1, h2, h3, h4, h5⟩ := h.ex
  exact ⟨⟨X, va, ca, h1.below hb h1.lt, h2.low hb, h3, h4, h5.low hb⟩, h.hA, h.hn, h.hW, h.hD⟩
theorem FdAt.drew {tf tix : TypeId} {bs : List UInt8} {A : Nat} {W D : Int} {F : Nat} {w : World} (h : FdAt tf tix bs A W D F w) (n : Nat) : FdAt tf tix bs A W D F (w.drewN n) := h.low (below_drewN (Below.refl _ _) n)
theorem FdAt.lt {tf tix : TypeId} {bs : List UInt8} {A : Nat} {W D : Int} {F : Nat} {w : World} (h : FdAt tf tix bs A W D F w) : F < w.heap.size := by
  obtain ⟨X, va, ca, h1, h2, h3, h4, h5⟩ := h.ex
  exact h1.lt
theorem own_oth {w w' : World} {base sz n : Nat} {e : TypeId} {v : Value} {xs : List Value} (h : w.ownsRow base e sz v n xs) (ho : ∀ b, base ≤ b → b < w.heap.size → w'.heap[b]? = w.heap[b]?) : w'.ownsRow base e sz v n xs := by
  obtain ⟨h1, h2⟩ := h
  rcases h2 with h2 | ⟨g, cap, cur, hv, h3, h4, h5⟩
  · exact ⟨h1, .inl h2⟩
  · exact ⟨h1, .inr ⟨g, cap, cur, hv, h3, (ho g h3 (Array.getElem?_eq_some_iff.1 h4).1).trans h4, h5⟩⟩
/-- A finder all of whose blocks lie at B or above. -/
def FdS (B : Nat) (tf tix : TypeId) (bs : List UInt8) (A : Nat) (W D : Int) (F : Nat) (w : World) : Prop :=
  B ≤ F ∧ ∀ w', (∀ k, B ≤ k → k < w.heap.size → w'.heap[k]? = w.heap[k]?) → FdAt tf tix bs A W D F w'
theorem FdS.at {B : Nat} {tf tix : TypeId} {bs : List UInt8} {A : Nat} {W D : Int} {F : Nat} {w : World} (h : FdS B tf tix bs A W D F w) : FdAt tf tix bs A W D F w := h.2 w fun _ _ _ => rfl
theorem FdS.low {B : Nat} {tf tix : TypeId} {bs : List UInt8} {A : Nat} {W D : Int} {F : Nat} {w w' : World} (h : FdS B tf tix bs A W D F w) (hb : Below w.heap.size w w') : FdS B tf tix bs A W D F w' :=
  ⟨h.1, fun w'' hs => h.2 w'' fun k h1 h2 => (hs k h1 (Nat.lt_of_lt_of_le h2 hb.size)).trans (hb.block k h2)⟩
theorem FdS.set {B : Nat} {tf tix : TypeId} {bs : List UInt8} {A : Nat} {W D : Int} {F : Nat} {w : World} (h : FdS B tf tix bs A W D F w) {a : Addr} (ha : a.block < B) (u : Value) : FdS B tf tix bs A W D F (w.setCell a u) :=
  ⟨h.1, fun w'' hs => h.2 w'' fun k h1 h2 => (hs k h1 (by simpa using h2)).trans (Below.heap_setCell w a u k (by omega))⟩
/-- May a finder be made? -/
def finderOk (n : Nat) (W D : Int) : Bool := decide (1 ≤ W) && decide (W ≤ 134217728) && decide (1 ≤ D) && decide (D ≤ 4096) && decide (n ≤ 131072)
end Go.Port
namespace Go.Proofs.YtlgablepckmogaaGreat
open Go.RowKit Go.Port
set_option maxRecDepth 100000 in
set_option maxHeartbeats 4000000 in
theorem cnew_ok (a1 a2 : Option Addr) (c1 c2 : Nat) (A D : List UInt8) (W dep : Int) (w : World) (hA : A.length ≤ 800000) (hD : (D.length : Int) ≤ 131072) (h1 : A.length ≤ c1) (h2 : D.length ≤ c2) (h3 : a1 = none → c1 = 0) (h4 : a2 = none → c2 = 0)
    (hc1 : CellsAt w a1 (A.map bv)) (hc2 : CellsAt w a2 (D.map bv)) (hW : 1 ≤ W) (hW2 : W ≤ 134217728) (hd : 1 ≤ dep) (hd2 : dep ≤ 4096) :
    Calls Tryz.prog 5 #[.slice a1 A.length c1, .slice a2 D.length c2, .int .i64 W, .int .i64 dep] w fun e w' => ∃ F, e = .returned (.tuple #[.pointer (some ⟨F, 0, none⟩), .int .i64 0]) ∧ FdS w.heap.size 50 79 (A ++ D) A.length W dep F w' ∧ Below w.heap.size w w' := by
  obtain ⟨bs, hbs⟩ : ∃ bs, A ++ D = bs := ⟨_, rfl⟩
  have hbl : bs.length = A.length + D.length := by rw [← hbs, List.length_append]
  have HBs := hid hbs
  have HBl := hid hbl
  rw [hbs]
  clear hbs hbl
  have HC1 := hid hc1
  have HC2 := hid hc2
  have HN := hid (xnew_any w)
  have HAl := hid hA
  have hAI : (A.length : Int) ≤ 800000 := by omega
  clear hc1 hc2 hA
  go_enter Tryz.func5, Tryz.ntmps5
  go_wp2_with fail
  refine wp_scope_straight ?_
  go_wp2_with fail
  refine HN.out.mono ?_
  rintro e w1 ⟨X, m1, m2, rfl, hX1, hX2, h12, bX, b1, b2, hix, hk1, hk2, hb1⟩
  have hXl := hix.lt
  have hml1 := hk1.lt
  have hml2 := hk2.lt
  have HK := hid (And.intro hix (And.intro hk1 (And.intro hk2 hb1)))
  have hs1 : w.heap.size ≤ w1.heap.size := hb1.size
  have hbB := below_new w1 (.cells #[.slice a1 A.length c1, .slice a2 D.length c2] 22)
  have HCo := hid (xconcat_any w1.heap.size a1 a2 c1 c2 A D (w1.alloc (.cells #[.slice a1 A.length c1, .slice a2 D.length c2] 22)) (by have := HAl.out; omega) (by omega) h1 h2 h3 h4 (Blk.new w1 _ _) ((HC1.out.low hb1).low hbB) ((HC2.out.low hb1).low hbB))
  rw [HBs.out] at HCo
  have HI := hid (And.intro hX1 (And.intro hX2 h12))
  clear hix hk1 hk2 hb1 hbB HN hX1 hX2 h12
  go_wp2_with fail
  refine HCo.out.mono ?_
  rintro e w2 ⟨v, rfl, hown, hb2⟩
  obtain ⟨va, ca, rfl⟩ := own_slice hown
  have hsb : (w1.alloc (.cells #[.slice a1 A.length c1, .slice a2 D.length c2] 22)).heap.size = w1.heap.size + 1 := by simp
  have hb12 : Below w1.heap.size w1 w2 := (below_new w1 (.cells #[.slice a1 A.length c1, .slice a2 D.length c2] 22)).trans (hb2.mono (by omega))
  rw [hsb] at hown
  have HO := hid hown
  have HB12 := hid hb12
  have hs2 : w1.heap.size ≤ w2.heap.size := hb12.size
  clear hown hb2 hb12 hsb HCo
  go_wp2_with fail
  obtain ⟨hix, hk1, hk2, hb1⟩ := HK.out
  have hB3 : Below w1.heap.size w1 (w2.alloc (.cells #[.pointer (some ⟨X, 0, none⟩), .slice va bs.length ca, .int .i64 (A.length : Int), .int .i64 W, .int .i64 dep] 50)) := HB12.out.alloc hs2 _
  have hF3 := Blk.new w2 [.pointer (some ⟨X, 0, none⟩), .slice va bs.length ca, .int .i64 (A.length : Int), .int .i64 W, .int .i64 dep] 50
  have hO3 := HO.out.alloc (.cells #[.pointer (some ⟨X, 0, none⟩), .slice va bs.length ca, .int .i64 (A.length : Int), .int .i64 W, .int .i64 dep] 50)
  have hs3 : (w2.alloc (.cells #[.pointer (some ⟨X, 0, none⟩), .slice va bs.length ca, .int .i64 (A.length : Int), .int .i64 W, .int .i64 dep] 50)).heap.size = w2.heap.size + 1 := by simp
  generalize (w2.alloc (.cells #[.pointer (some ⟨X, 0, none⟩), .slice va bs.length ca, .int .i64 (A.length : Int), .int .i64 W, .int .i64 dep] 50)) = w3 at *
  have hcp := (Sl.of_owns hO3).cap rfl
  have hce := (Sl.of_owns hO3).cells' rfl
  have hlen : bs.length ≤ 1000000 := by have := HAl.out; have := HBl.out; omega
  have hI : IxB w.heap.size w3.drew.heap.size X m1 m2 := ⟨(by show X < w3.heap.size; omega), (by show m1 < w3.heap.size; omega), (by show m2 < w3.heap.size; omega), HI.out.1, HI.out.2.1, HI.out.2.2, bX, b1, b2⟩
  have HAdd := hid (xadd_any w.heap.size X m1 m2 va ca bs w3.drew hlen hcp.1 hcp.2 hI (by show w.heap.size ≤ w3.heap.size; omega) (hix.below hB3.drew hix.lt) (hk1.low hB3.drew) (hk2.low hB3.drew) hce)
  have HO3 := hid hO3
  have HB03 := hid (hb1.trans (hB3.mono hs1))
  have HF3 := hid hF3
  have HCp := hid hcp
  have HLn := hid hlen
  have hFl : w2.heap.size < w3.heap.size := by omega
  have hFs : w1.heap.size ≤ w2.heap.size := hs2

  clear hix hk1 hk2 hb1 hO3 hB3 hI hce hcp HK HO HB12 HC1 HC2 hF3 hs3 hlen
  generalize w2.heap.size = F at *
  refine wp_region_noPanic ?_
  refine wp_region_held_drew (S := fun W' => Blk W' F [.pointer (some ⟨X, 0, none⟩), .slice va bs.length ca, .int .i64 (A.length : Int), .int .i64 W, .int .i64 dep] 50) (by kernel_rfl) HF3.out (fun hHeld => ?_)
  refine wpAnyH_take (i := 0) (v := .pointer (some ⟨F, 0, none⟩)) (by simp only [List.getElem?_toArray, List.getElem?_cons_zero]; rfl) (by kernel_rfl) (by kernel_rfl) (by kernel_rfl) (fun _ _ _ h => h) (Or.inl ⟨by rfl, fun W hSw => ?_⟩) (by assumption) ?_
  · clear hSw
    go_simp
  simp only [Act.put, List.setIfInBounds_toArray, List.set_cons_zero, List.set_cons_succ]
  refine wpAnyH_take (i := 1) (v := .pointer (some ⟨F, 0, none⟩)) (by simp only [List.getElem?_toArray, List.getElem?_cons_zero, List.getElem?_cons_succ]; rfl) (by kernel_rfl) (by kernel_rfl) (by kernel_rfl) (fun _ _ _ h => h) (Or.inl ⟨by rfl, fun W hSw => ?_⟩) (by assumption) ?_
  · clear hSw
    go_simp
  simp only [Act.put, List.setIfInBounds_toArray, List.set_cons_zero, List.set_cons_succ]
  refine wpAnyH_take (i := 2) (v := .pointer (some ⟨F, 0, none⟩)) (by simp only [List.getElem?_toArray, List.getElem?_cons_zero, List.getElem?_cons_succ]; rfl) (by kernel_rfl) (by kernel_rfl) (by kernel_rfl) (fun _ _ _ h => h) (Or.inl ⟨by rfl, fun W hSw => ?_⟩) (by assumption) ?_
  · clear hSw
    go_simp
  simp only [Act.put, List.setIfInBounds_toArray, List.set_cons_zero, List.set_cons_succ]
  refine wpAnyH_take (i := 3) (v := .pointer (some ⟨X, 0, none⟩)) (by simp only [List.getElem?_toArray, List.getElem?_cons_zero, List.getElem?_cons_succ]; rfl) (by kernel_rfl) (by kernel_rfl) (by kernel_rfl) (fun _ _ _ h => h) (Or.inl ⟨by rfl, fun W hSw => ?_⟩) (by assumption) ?_
  · have hcw := hSw.cell (k := 0) rfl
    go_simp
  simp only [Act.put, List.setIfInBounds_toArray, List.set_cons_zero, List.set_cons_succ]
  refine wpAnyH_take (i := 4) (v := .pointer (some ⟨F, 0, none⟩)) (by simp only [List.getElem?_toArray, List.getElem?_cons_zero, List.getElem?_cons_succ]; rfl) (by kernel_rfl) (by kernel_rfl) (by kernel_rfl) (fun _ _ _ h => h) (Or.inl ⟨by rfl, fun W hSw => ?_⟩) (by assumption) ?_
  · clear hSw
    go_simp
  simp only [Act.put, List.setIfInBounds_toArray, List.set_cons_zero, List.set_cons_succ]
  refine wpAnyH_take (i := 5) (v := .pointer (some ⟨F, 0, none⟩)) (by simp only [List.getElem?_toArray, List.getElem?_cons_zero, List.getElem?_cons_succ]; rfl) (by kernel_rfl) (by kernel_rfl) (by kernel_rfl) (fun _ _ _ h => h) (Or.inl ⟨by rfl, fun W hSw => ?_⟩) (by assumption) ?_
  · clear hSw
    go_simp
  simp only [Act.put, List.setIfInBounds_toArray, List.set_cons_zero, List.set_cons_succ]
  refine wpAnyH_take (i := 6) (v := .pointer (some ⟨F, 1, none⟩)) (by simp only [List.getElem?_toArray, List.getElem?_cons_zero, List.getElem?_cons_succ]; rfl) (by kernel_rfl) (by kernel_rfl) (by kernel_rfl) (fun _ _ _ h => h) (Or.inl ⟨by rfl, fun W hSw => ?_⟩) (by assumption) ?_
  · clear hSw
    go_simp
  simp only [Act.put, List.setIfInBounds_toArray, List.set_cons_zero, List.set_cons_succ]
  refine wpAnyH_take (i := 7) (v := .slice va bs.length ca) (by simp only [List.getElem?_toArray, List.getElem?_cons_zero, List.getElem?_cons_succ]; rfl) (by kernel_rfl) (by kernel_rfl) (by kernel_rfl) (fun _ _ _ h => h) (Or.inl ⟨by rfl, fun W hSw => ?_⟩) (by assumption) ?_
  · have hcw := hSw.cell (k := 1) rfl
    go_simp
  simp only [Act.put, List.setIfInBounds_toArray, List.set_cons_zero, List.set_cons_succ]
  refine wpAnyH_ready (rs := [8]) (by kernel_rfl) (by simp) ?_
  refine AllReadyH.cons (by simp only [List.getElem?_toArray, List.getElem?_cons_zero, List.getElem?_cons_succ]; rfl) (fun K hK => ?_) AllReadyH.nil
  rw [if_pos (by rfl)]
  go_simp
  go_at_call 15
  refine HAdd.out.mono ?_
  rintro e w4 ⟨rfl, vb, vp, hR⟩
  dsimp only
  have hF4 : Blk w4 F [.pointer (some ⟨X, 0, none⟩), .slice va bs.length ca, .int .i64 (A.length : Int), .int .i64 W, .int .i64 dep] 50 := (hR.oth F (show F < w3.heap.size from hFl) (by omega) (by omega) (by omega)).trans HF3.out
  have hO4 := own_oth (w' := w4) HO3.out (fun b hb hb' => hR.oth b hb' (by omega) (by omega) (by omega))
  refine hK.out _ _ hF4 (fun _ => ?_)
  clear hK K
  obtain ⟨ap, cp, rfl⟩ := own_slice hR.rp
  have HFd := hid (show FdS w.heap.size 50 79 bs A.length W dep F w4 from ⟨by omega, fun w5 hs => ⟨⟨X, va, ca, (hs F (by omega) hF4.lt).trans hF4, ⟨_, _, _, ap, cp, (hs X bX hR.ix.lt).trans hR.ix, ((Sl.of_owns hR.rp).cap rfl).1, (Sl.of_owns (own_oth (w' := w5) hR.rp (fun b hb hb' => hs b (by have : w3.drew.heap.size = w3.heap.size := rfl; omega) hb'))).cells' rfl⟩, HCp.out.1, HCp.out.2, (Sl.of_owns (own_oth (w' := w5) hO4 (fun b hb hb' => hs b (by omega) hb'))).cells' rfl⟩, (by have := HBl.out; omega), HLn.out, ⟨hW, hW2⟩, ⟨hd, hd2⟩⟩⟩)
  have HB4 := hid (HB03.out.drew.trans (hR.below))
  refine wpAnyH_done (by kernel_rfl) ?_ _
  refine NoPanic.normal ?_
  clear hF4 hO4 hR HAdd HF3
  go_wp2
  simp only [Exit.noGoto_ret]
  go_ret2
  exact ⟨F, rfl, HFd.out, HB4.out⟩
end Go.Proofs.YtlgablepckmogaaGreat
namespace Go.Proofs.YtlgablepckmogaaGreat
open Go.RowKit Go.Port
set_option maxRecDepth 100000 in
set_option maxHeartbeats 4000000 in
theorem cnew_bad (a1 a2 : Option Addr) (n1 n2 c1 c2 : Nat) (W dep : Int) (w : World) (h : finderOk n2 W dep = false) :
    Calls Tryz.prog 5 #[.slice a1 n1 c1, .slice a2 n2 c2, .int .i64 W, .int .i64 dep] w fun e w' => e = .returned (.tuple #[.pointer none, .int .i64 2]) ∧ w = w' := by
  have hc : W < 1 ∨ (1 ≤ W ∧ 134217728 < W) ∨ (1 ≤ W ∧ W ≤ 134217728 ∧ dep < 1) ∨ (1 ≤ W ∧ W ≤ 134217728 ∧ 1 ≤ dep ∧ 4096 < dep) ∨ (1 ≤ W ∧ W ≤ 134217728 ∧ 1 ≤ dep ∧ dep ≤ 4096 ∧ 131072 < (n2 : Int)) := by
    unfold finderOk at h
    simp only [Bool.and_eq_false_iff, decide_eq_false_iff_not] at h
    omega
  clear h
  go_enter Tryz.func5, Tryz.ntmps5
  go_wp2_with fail
  refine wp_scope_jumps 0 (fun a' w' => (∃ x0 x1 x2 x3 x4 x5 x6 x7 x8 x10 x11 x12 x13 x14 x15 x16 x17 x18 x19 x20 x21 x22 x23 x24 x25 x26 x27 x28 x29 x30 x31 x32 x33 x34 x35 x36 x37 x38 x39 x40 x41 x42 x43 x44 x45 x46 x47 x48 x49 x50 x51 x52 x53 x54 x55 x56 x57 x58 : Value, a' = { tmps := #[x0, x1, x2, x3, x4, x5, x6, x7, x8, .int .i64 2, x10, x11, x12, x13, x14, x15, x16, x17, x18, x19, x20, x21, x22, x23, x24, x25, x26, x27, x28, x29, x30, x31, x32, x33, x34, x35, x36, x37, x38, x39, x40, x41, x42, x43, x44, x45, x46, x47, x48, x49, x50, x51, x52, x53, x54, x55, x56, x57, x58], defers := [] }) ∧ w = w') (fun _ _ => 0) rfl ?first ?pass
  case first =>
    rcases hc with h | ⟨h1, h2⟩ | ⟨h1, h2, h3⟩ | ⟨h1, h2, h3, h4⟩ | ⟨h1, h2, h3, h4, h5⟩
    all_goals
      go_wp2
      refine wp_goto ?_
      refine And.intro (rfl : 0 = 0) ?_
      refine ⟨?_, rfl⟩
      repeat apply Exists.intro
      rfl
  case pass =>
    rintro a1 w1 ⟨⟨x0, x1, x2, x3, x4, x5, x6, x7, x8, x10, x11, x12, x13, x14, x15, x16, x17, x18, x19, x20, x21, x22, x23, x24, x25, x26, x27, x28, x29, x30, x31, x32, x33, x34, x35, x36, x37, x38, x39, x40, x41, x42, x43, x44, x45, x46, x47, x48, x49, x50, x51, x52, x53, x54, x55, x56, x57, x58, rfl⟩, rfl⟩
    go_wp2
    simp only [Exit.jump]
    go_ret2
    exact ⟨rfl, rfl⟩
end Go.Proofs.YtlgablepckmogaaGreat
namespace Go.Proofs.YtlgablepckmogaaGreat
open Go.RowKit Go.Port
theorem cnone_any (bs : List UInt8) (A : Nat) (W D : Int) (F : Nat) (w : World) (h : FdAt 50 79 bs A W D F w) :
    Calls Tryz.prog 67 #[.pointer (some ⟨F, 0, none⟩)] w fun e w' => e = .returned (.bool false) ∧ w = w' := by
  obtain ⟨X, va, ca, h1, h2, h3, h4, h5⟩ := h.ex
  have c0 := h1.cell (k := 0) rfl
  clear h h1 h2 h3 h4 h5
  go_enter Tryz.func67, Tryz.ntmps67
  go_wp2
  go_ret
  exact ⟨rfl, rfl⟩
theorem cnone_nil (w : World) :
    Calls Tryz.prog 67 #[.pointer none] w fun e w' => e = .returned (.bool true) ∧ w = w' := by
  go_enter Tryz.func67, Tryz.ntmps67
  go_wp2
  go_ret
  exact ⟨rfl, rfl⟩
theorem cnone_zero (F : Nat) (w : World) (h : Blk w F [.pointer none, .slice none 0 0, .int .i64 0, .int .i64 0, .int .i64 0] 50) :
    Calls Tryz.prog 67 #[.pointer (some ⟨F, 0, none⟩)] w fun e w' => e = .returned (.bool true) ∧ w = w' := by
  have c0 := h.cell (k := 0) rfl
  clear h
  go_enter Tryz.func67, Tryz.ntmps67
  go_wp2
  go_ret
  exact ⟨rfl, rfl⟩
/-- A finder that is nil or zero. -/
def NoFd (p : Option Addr) (w : World) : Prop := p = none ∨ ∃ F, p = some ⟨F, 0, none⟩ ∧ Blk w F [.pointer none, .slice none 0 0, .int .i64 0, .int .i64 0, .int .i64 0] 50
theorem NoFd.none {p : Option Addr} {w : World} (h : NoFd p w) :
    Calls Tryz.prog 67 #[.pointer p] w fun e w' => e = .returned (.bool true) ∧ w = w' := by
  rcases h with rfl | ⟨F, rfl, h⟩
  · exact cnone_nil w
  · exact cnone_zero F w h
set_option maxHeartbeats 400000 in
theorem clen_any (bs : List UInt8) (A : Nat) (W D : Int) (F : Nat) (w : World) (h : FdAt 50 79 bs A W D F w) :
    Calls Tryz.prog 79 #[.pointer (some ⟨F, 0, none⟩)] w fun e w' => e = .returned (.int .i64 ((bs.length : Int) - A)) ∧ ∃ m, w' = w.drewN m := by
  have HN := hid (cnone_any bs A W D F w h)
  obtain ⟨X, va, ca, h1, h2, h3, h4, h5⟩ := h.ex
  have c1 := h1.cell (k := 1) rfl
  have c2 := h1.cell (k := 2) rfl
  have hA := h.hA
  have hn := h.hn
  have hw1 : IntKind.i64.wrap ((bs.length : Int) - (A : Int)) = (bs.length : Int) - (A : Int) := by rw [IntKind.wrap_i64]; omega
  have hnI : (bs.length : Int) ≤ 1000000 := by omega
  have hAI : (A : Int) ≤ (bs.length : Int) := by omega
  clear h h1 h2 h3 h4 h5 hA hn
  go_enter Tryz.func79, Tryz.ntmps79
  go_wp2_with (go_at_call 67; refine HN.out.mono ?_; rintro e w' ⟨rfl, rfl⟩)
  go_quiet (fail)
  go_wp2
  go_ret
  exact ⟨rfl, _, rfl⟩
set_option maxHeartbeats 800000 in
theorem cown_any (bs : List UInt8) (A : Nat) (W D : Int) (F : Nat) (p : Int) (w : World) (h : FdAt 50 79 bs A W D F w) :
    Calls Tryz.prog 128 #[.pointer (some ⟨F, 0, none⟩), .int .i64 p] w fun e w' => e = .returned (if 0 ≤ p ∧ p ≤ (bs.length : Int) - A then .tuple #[.int .i64 ((A : Int) + p), .bool true] else .tuple #[.int .i64 0, .bool false]) ∧ ∃ m, w' = w.drewN m := by
  have HN := hid (cnone_any bs A W D F w h)
  have HL := hid (fun n => clen_any bs A W D F (w.drewN n) (h.drew n))
  obtain ⟨X, va, ca, h1, h2, h3, h4, h5⟩ := h.ex
  have c2 := h1.cell (k := 2) rfl
  have hA := h.hA
  have hn := h.hn
  have hnI : (bs.length : Int) ≤ 1000000 := by omega
  have hAI : (A : Int) ≤ (bs.length : Int) := by omega
  clear h h1 h2 h3 h4 h5 hA hn
  by_cases h0 : 0 ≤ p
  · by_cases hl : p ≤ (bs.length : Int) - A
    · rw [if_pos ⟨h0, hl⟩]
      have d0 : decide (p < 0) = false := decide_eq_false (by omega)
      have d1 : decide ((bs.length : Int) - (A : Int) < p) = false := decide_eq_false (by omega)
      go_enter Tryz.func128, Tryz.ntmps128
      go_wp2_with (first | (go_at_call 67; refine HN.out.mono ?_; rintro e w' ⟨rfl, rfl⟩) | (go_at_call 79; refine (HL.out 0).mono ?_; rintro e w' ⟨rfl, m, rfl⟩))
      go_ret2
      exact ⟨rfl, _, rfl⟩
    · rw [if_neg (fun h => hl h.2)]
      have d0 : decide (p < 0) = false := decide_eq_false (by omega)
      have d1 : decide ((bs.length : Int) - (A : Int) < p) = true := decide_eq_true (by omega)
      go_enter Tryz.func128, Tryz.ntmps128
      go_wp2_with (first | (go_at_call 67; refine HN.out.mono ?_; rintro e w' ⟨rfl, rfl⟩) | (go_at_call 79; refine (HL.out 0).mono ?_; rintro e w' ⟨rfl, m, rfl⟩))
      go_ret2
      exact ⟨rfl, _, rfl⟩
  · rw [if_neg (fun h => h0 h.1)]
    have d0 : decide (p < 0) = true := decide_eq_true (by omega)
    go_enter Tryz.func128, Tryz.ntmps128
    go_wp2_with (go_at_call 67; refine HN.out.mono ?_; rintro e w' ⟨rfl, rfl⟩)
    go_ret2
    exact ⟨rfl, 0, rfl⟩
theorem cwants_any (bs : List UInt8) (A : Nat) (W D : Int) (F c : Nat) (n far : Int) (w : World) (h : FdAt 50 79 bs A W D F w) (hc : w.cell? ⟨c, 0, none⟩ = some (.pointer (some ⟨F, 0, none⟩))) :
    Calls Tryz.prog 150 #[.int .i64 n, .int .i64 far, .pointer (some ⟨c, 0, none⟩)] w fun e w' => e = .returned (.bool (decide (n < D) && decide (far ≤ W))) ∧ w = w' := by
  obtain ⟨X, va, ca, h1, h2, h3, h4, h5⟩ := h.ex
  have c3 := h1.cell (k := 3) rfl
  have c4 := h1.cell (k := 4) rfl
  clear h h1 h2 h3 h4 h5
  by_cases hd : n < D
  · by_cases hw : far ≤ W
    · have e : (decide (n < D) && decide (far ≤ W)) = true := by simp [hd, hw]
      rw [e]
      go_enter Tryz.func150, Tryz.ntmps150
      go_wp2
      go_ret
      exact ⟨rfl, rfl⟩
    · have e : (decide (n < D) && decide (far ≤ W)) = false := by simp [hw]
      rw [e]
      go_enter Tryz.func150, Tryz.ntmps150
      go_wp2
      go_ret
      exact ⟨rfl, rfl⟩
  · have e : (decide (n < D) && decide (far ≤ W)) = false := by simp [hd]
    rw [e]
    go_enter Tryz.func150, Tryz.ntmps150
    go_wp2
    go_ret
    exact ⟨rfl, rfl⟩
end Go.Proofs.YtlgablepckmogaaGreat
namespace Go.Port
open Go.RowKit
theorem candGo_cons (own : Nat) (W D : Int) (p : Nat) (r : List Nat) : candGo own W D (p :: r) = if 0 < D ∧ ((own : Int) - (p : Int)) ≤ W then p :: candGo own W (D - 1) r else [] := rfl
theorem candGo_append (own : Nat) (W : Int) (rest : List Nat) : ∀ (pre : List Nat) (D : Int), candGo own W D pre = pre → candGo own W D (pre ++ rest) = pre ++ candGo own W (D - pre.length) rest := by
  intro pre
  induction pre with
  | nil => intro D _; simp
  | cons p r ih =>
    intro D h
    rw [candGo_cons] at h
    split at h
    · rename_i hc
      simp only [List.cons.injEq, true_and] at h
      rw [List.cons_append, candGo_cons, if_pos hc, ih _ h, List.cons_append, show D - ((p :: r).length : Int) = D - 1 - (r.length : Int) from by simp only [List.length_cons]; omega]
    · cases h
/-- All so far were taken. -/
def Took (own : Nat) (W D : Int) (pre : List Nat) : Prop := candGo own W D pre = pre
theorem Took.nil (own : Nat) (W D : Int) : Took own W D [] := rfl
theorem Took.next {own : Nat} {W D : Int} {pre : List Nat} (h : Took own W D pre) (x : Nat) (h1 : (pre.length : Int) < D) (h2 : (own : Int) - x ≤ W) : Took own W D (pre ++ [x]) := by
  unfold Took
  rw [candGo_append own W [x] pre D h, candGo_cons, if_pos ⟨by omega, h2⟩]
  rfl
theorem Took.stop {own : Nat} {W D : Int} {pre : List Nat} (h : Took own W D pre) (x : Nat) (rest : List Nat) (hn : ¬ ((pre.length : Int) < D ∧ (own : Int) - x ≤ W)) : candGo own W D (pre ++ [x] ++ rest) = pre := by
  rw [List.append_assoc, candGo_append own W _ pre D h]
  simp only [List.cons_append, List.nil_append]
  rw [candGo_cons, if_neg (fun hc => hn ⟨by omega, hc.2⟩), List.append_nil]
theorem Took.len {own : Nat} {W D : Int} {pre : List Nat} (h : Took own W D pre) : pre = candGo own W D pre := h.symm
theorem candS_chain (B : List UInt8) (own : Nat) (W D : Int) : candS B own W D = candGo own W D (chainS B (own : Int)) := by
  unfold candS chainS
  by_cases h : own + 3 ≤ B.length
  · rw [if_pos h, if_pos (by omega), Int.toNat_natCast]
  · rw [if_neg h, if_neg (by omega)]
    rfl
theorem stays_own {β : Type} (B base sz : Nat) (e : TypeId) (v : Value) (n : Nat) (xs : List Value) : StaysC B (fun (_ : β) W => W.ownsRow base e sz v n xs) := fun _ W _ row h hg hr => by
  refine h.kept hg ?_
  obtain ⟨h1, h2⟩ := h
  rcases h2 with ⟨rfl, _⟩ | ⟨g, cap, cur, rfl, h3, h4, h5⟩
  · exact .inl rfl
  · refine .inr (fun e' => ?_)
    obtain ⟨_, o, ho, hc⟩ := hr g e'.symm
    rw [h4] at ho
    cases ho
    cases hc
theorem wpListIn_append1 {F : Fence} {nF : Nat} {P : Program} {ops : Array Oper} {rest : List Oper} {o : Oper} {a : Act} {Q : Exit → Act → World → Prop} (hgd : o.guard = none) (s x : Operand) (t : TypeId)
    (ho : o.op = .call { callee := .builtin .append, args := #[s, x], argTypes := #[t, t] }) (e : TypeId) (z : Value) (sz bytes : Nat) (ht : P.underlying t = some (.slice e))
    (hi : (P.info? e).map (fun i => (i.zero, i.size, i.bytes)) = some (some z, sz, bytes)) (hz : z.cells.size = sz) (hsz : 0 < sz) (hb0 : 0 < bytes) (W : World) (base : Nat) (v : Value) (n : Nat) (xs us : List Value)
    (hus : us.length = sz) (hu : ∀ u ∈ us, u.oneCell' = true) (hs : a.eval s = v) (hx : a.eval x = .slice (some ⟨W.heap.size, 0, none⟩) 1 1) (hown : W.ownsRow base e sz v n xs) (hn : (n + 1) * bytes ≤ 140737488355328) (hbase : base ≤ W.heap.size)
    (h : ∀ v' w', w'.ownsRow base e sz v' (n + 1) (xs ++ us) → W.grownBy w' v.ownBlock → wpListIn F nF P ops Q rest (a.put o.dst v') w') : wpListIn F nF P ops Q (o :: rest) a (W.alloc (.cells us.toArray e)) := by
  obtain ⟨i0, hi0, hz0, hz1, hz2⟩ := info_parts hi
  have hle : n + 1 ≤ (n + 1) * bytes := Nat.le_mul_of_pos_right _ hb0
  refine wpListIn_append_own _ hgd s x t ho base e i0 z sz bytes ht hi0 hz0 hz1 hz2 hz hsz v n xs hs (hown.alloc _) ⟨W.heap.size, 0, none⟩ 1 1 us hx (by omega) (fun j u hj => ?_) hu (by simp only [maxLen]; omega) hn (by simp; omega) (fun v' w' h1 h2 _ => h v' w' h1 ?_)
  · have hadd : (⟨W.heap.size, 0, none⟩ : Addr).add j = ⟨W.heap.size, j, none⟩ := by unfold Addr.add; split <;> simp_all
    rw [hadd]
    exact (Blk.new W us e).cell hj
  · have h0 := World.grownBy_alloc W (.cells us.toArray e) v.ownBlock
    exact ⟨h2.os.trans h0.os, h2.tape.trans h0.tape, h2.output.trans h0.output, Nat.le_trans h0.size h2.size, fun k hk hne => (h2.block k (Nat.lt_of_lt_of_le hk h0.size) hne).trans (h0.block k hk hne)⟩
/-- A row of the round's own, as a round keeps. -/
theorem keeps_own {X : Nat → Prop} {D base sz n : Nat} {T : TypeId → Bool} {W w' : World} {e : TypeId} {v : Value} {xs : List Value} (h : W.ownsRow base e sz v n xs) (hg : W.grownBy w' v.ownBlock) (hT : T e = true) (hX : ∀ k, base ≤ k → ¬ X k) : KeepsT X D T W w' :=
  KeepsT.grown hg (fun r hr => by
    obtain ⟨h1, h2⟩ := h
    rcases h2 with ⟨rfl, _⟩ | ⟨g, cap, cur, rfl, h3, h4, h5⟩
    · cases hr
    · cases hr
      exact ⟨hX _ h3, cur, e, (0, 0), h4, hT⟩)
/-- While candidates are gathered: pre have been taken. -/
structure Gath (own : Nat) (Wd D : Int) (t101 t49 ti : TypeId) (w : World) (cl : Value) (pre : List Nat) (W : World) : Prop where
  f : Blk W w.heap.size [cl] t101
  o : ∃ v, Blk W (w.heap.size + 1) [v] t49 ∧ W.ownsRow (w.heap.size + 2) ti 1 v pre.length (pre.map natI)
  low : Below w.heap.size w W
  took : Took own Wd D pre
  sz : w.heap.size + 2 ≤ W.heap.size
structure GathX (own : Nat) (Wd D : Int) (t49 ti : TypeId) (w : World) (id : Nat) (c : Code) (xs : List Nat) (W : World) : Prop where
  c : c = .exit id
  o : ∃ (v : Value) (pre : List Nat) (x : Nat), xs = pre ++ [x] ∧ Took own Wd D pre ∧ ¬ ((pre.length : Int) < D ∧ (own : Int) - x ≤ Wd) ∧ Blk W (w.heap.size + 1) [v] t49 ∧ W.ownsRow (w.heap.size + 2) ti 1 v pre.length (pre.map natI)
  low : Below w.heap.size w W
structure GathF (t49 ti : TypeId) (w : World) (l : List Nat) (W : World) : Prop where
  o : ∃ v, Blk W (w.heap.size + 1) [v] t49 ∧ W.ownsRow (w.heap.size + 2) ti 1 v l.length (l.map natI)
  low : Below w.heap.size w W
theorem Gath.stays (own : Nat) (Wd D : Int) (t101 t49 ti : TypeId) (w : World) (cl : Value) {B : Nat} (hB : w.heap.size + 2 ≤ B) : StaysC B (Gath own Wd D t101 t49 ti w cl) := fun xs W W' row h hg hr => by
  obtain ⟨v, h1, h2⟩ := h.o
  exact ⟨stays_cells (β := Unit) B _ _ _ () W W' row h.f hg hr, ⟨v, stays_cells (β := Unit) B _ _ _ () W W' row h1 hg hr, stays_own (β := Unit) B _ _ _ _ _ _ () W W' row h2 hg hr⟩, h.low.grown hg h.low.size (fun k hk => by have := (hr _ hk).1; omega), h.took, Nat.le_trans h.sz hg.size⟩
theorem GathX.stays (own : Nat) (Wd D : Int) (t49 ti : TypeId) (w : World) (id : Nat) (c : Code) {B : Nat} (hB : w.heap.size + 2 ≤ B) : StaysC B (GathX own Wd D t49 ti w id c) := fun xs W W' row h hg hr => by
  obtain ⟨v, pre, x, h0, h1, h2, h3, h4⟩ := h.o
  exact ⟨h.c, ⟨v, pre, x, h0, h1, h2, stays_cells (β := Unit) B _ _ _ () W W' row h3 hg hr, stays_own (β := Unit) B _ _ _ _ _ _ () W W' row h4 hg hr⟩, h.low.grown hg h.low.size (fun k hk => by have := (hr _ hk).1; omega)⟩
theorem Gath.fin {own : Nat} {Wd D : Int} {t101 t49 ti : TypeId} {w : World} {cl : Value} {l : List Nat} (xs : List Nat) (W : World) (hS : xs = l) (h : Gath own Wd D t101 t49 ti w cl xs W) : GathF t49 ti w (candGo own Wd D l) W := by
  subst hS
  rw [show candGo own Wd D xs = xs from h.took]
  exact ⟨h.o, h.low⟩
theorem GathX.fin {own : Nat} {Wd D : Int} {t49 ti : TypeId} {w : World} {id : Nat} {l : List Nat} (c : Code) (xs : List Nat) (W : World) (hS : ∃ rest, xs ++ rest = l) (h : GathX own Wd D t49 ti w id c xs W) : c = .exit id ∧ GathF t49 ti w (candGo own Wd D l) W := by
  obtain ⟨rest, rfl⟩ := hS
  obtain ⟨v, pre, x, rfl, h1, h2, h3, h4⟩ := h.o
  rw [h1.stop x rest h2]
  exact ⟨h.c, ⟨v, h3, h4⟩, h.low⟩
end Go.Port
namespace Go.Proofs.YtlgablepckmogaaGreat
open Go.RowKit Go.Port
attribute [local go_sem] Oper.semAt_some
set_option maxRecDepth 100000 in
set_option maxHeartbeats 4000000 in
theorem cgath_any (bs : List UInt8) (A : Nat) (Wd D : Int) (F c g k own : Nat) (a : Option Addr) (ca : Nat) (l : List Nat) (w : World) (h : FdAt 50 79 bs A Wd D F w) (hc : w.cell? ⟨c, 0, none⟩ = some (.pointer (some ⟨F, 0, none⟩)))
    (hl : l.length ≤ 1000000) (hown : own ≤ 1000000) (hlo : ∀ x ∈ l, (x : Int) ≤ 1000000) (hb : w.cell? ⟨g, 0, none⟩ = some (.slice a l.length ca)) (hb2 : w.cell? ⟨k, 0, none⟩ = some (.int .i64 (own : Int))) (hcl : CellsAt w a (l.map natI)) :
    Calls Tryz.prog 148 #[.func (.func 168) #[] #[.pointer (some ⟨g, 0, none⟩), .pointer (some ⟨k, 0, none⟩)], .func (.func 150) #[] #[.pointer (some ⟨c, 0, none⟩)]] w
      fun e w' => ∃ v, e = .returned v ∧ w'.ownsRow (w.heap.size + 2) 3 1 v (candGo own Wd D l).length ((candGo own Wd D l).map natI) ∧ Below w.heap.size w w' := by
  have hcs := World.block_lt_of_cell? w _ hc
  have hgs := World.block_lt_of_cell? w _ hb
  have hks := World.block_lt_of_cell? w _ hb2
  have HWt := hid (fun (n far : Int) (W : World) (hW : Below w.heap.size w W) => cwants_any bs A Wd D F c n far W (h.low hW) ((hW.cell (p := ⟨c, 0, none⟩) hcs).trans hc))
  have HSq := hid (fun (w2 : World) (hW : Below w.heap.size w w2) => xchain2_seq (fun k => k < w.heap.size) (fun t => t == 3) g k a ca l (own : Int) w2 hl (by omega) hlo hgs hks rfl rfl ((hW.cell (p := ⟨g, 0, none⟩) hgs).trans hb) ((hW.cell (p := ⟨k, 0, none⟩) hks).trans hb2) (fun j u hu => by
    obtain ⟨b, off, e, h1, h2⟩ := hcl j u hu
    exact ⟨b, off, e, h1, (hW.cell (p := ⟨b, off + j, none⟩) h1).trans h2⟩))
  have HLo := hid hlo
  clear h hc hb hb2 hcl hlo
  have hlI : (l.length : Int) ≤ 1000000 := by omega
  refine (callsIn_wide (n := 1)).1 ?_
  refine callsIn_of_wp_marks Tryz.func148 rfl trivial ?_ rfl
  simp only [Tryz.ntmps148, List.size_toArray, List.length_cons, List.length_nil, Nat.reduceAdd, Nat.reduceSub, Array.replicate_succ, Array.replicate_zero, List.push_toArray, List.append_toArray, List.nil_append, List.cons_append]
  refine wpIn_wide.2 ?_
  go_wp2_with fail
  refine (wpIn_wide (n := 1)).1 ?_
  have hB2 : Below w.heap.size w ((w.alloc (.cells #[.func (.func 150) #[] #[.pointer (some ⟨c, 0, none⟩)]] 114)).alloc (.cells #[.slice none 0 0] 77)) := (below_new w _).alloc (by simp) _
  have hs2 : ((w.alloc (.cells #[.func (.func 150) #[] #[.pointer (some ⟨c, 0, none⟩)]] 114)).alloc (.cells #[.slice none 0 0] 77)).heap.size = w.heap.size + 2 := by simp
  have hf2 : Blk ((w.alloc (.cells #[.func (.func 150) #[] #[.pointer (some ⟨c, 0, none⟩)]] 114)).alloc (.cells #[.slice none 0 0] 77)) w.heap.size [.func (.func 150) #[] #[.pointer (some ⟨c, 0, none⟩)]] 114 := (Blk.new w _ _).alloc _
  have ho2 : Blk ((w.alloc (.cells #[.func (.func 150) #[] #[.pointer (some ⟨c, 0, none⟩)]] 114)).alloc (.cells #[.slice none 0 0] 77)) (w.heap.size + 1) [.slice none 0 0] 77 := by
    have := Blk.new (w.alloc (.cells #[.func (.func 150) #[] #[.pointer (some ⟨c, 0, none⟩)]] 114)) [.slice none 0 0] 77
    rwa [show (w.alloc (.cells #[.func (.func 150) #[] #[.pointer (some ⟨c, 0, none⟩)]] 114)).heap.size = w.heap.size + 1 from by simp] at this
  generalize ((w.alloc (.cells #[.func (.func 150) #[] #[.pointer (some ⟨c, 0, none⟩)]] 114)).alloc (.cells #[.slice none 0 0] 77)) = w2 at *
  have hG0 : Gath own Wd D 114 77 3 w (.func (.func 150) #[] #[.pointer (some ⟨c, 0, none⟩)]) [] w2 := ⟨hf2, ⟨_, ho2, World.ownsRow_nil _ _ _ _⟩, hB2, Took.nil _ _ _, by omega⟩
  apply wpIn_rangeStA (gf := 168) (lb := #[.pointer (some ⟨g, 0, none⟩), .pointer (some ⟨k, 0, none⟩)]) rfl (enters_of Tryz.func168 (by kernel_rfl) rfl) (encs := encsD (own : Int))
    (HSq.out w2 hB2) (fun _ => rfl)
    (Gath own Wd D 114 77 3 w (.func (.func 150) #[] #[.pointer (some ⟨c, 0, none⟩)])) (GathX own Wd D 77 3 w 0) (Gath.stays _ _ _ _ _ _ _ _ (by omega)) (fun cd => GathX.stays _ _ _ _ _ _ _ cd (by omega)) hG0
    0 (fun _ W => GathF 77 3 w (candGo own Wd D l) W) Gath.fin GathX.fin (fun _ _ h => h)
  case hassign =>
    intro l' x W K hK
    unfold encsD
    gi_wp2
    exact hK
  case hbody =>
    rintro l' pre x W hI hSp
    have hx : (x : Int) ≤ 1000000 := HLo.out x (by
      obtain ⟨rest, hr⟩ := hSp
      rw [← hr]
      simp)
    have hpl : pre.length + 1 ≤ l.length := by
      obtain ⟨rest, hr⟩ := hSp
      rw [← hr]
      simp
    have hplI : (pre.length : Int) + 1 ≤ (l.length : Int) := by omega
    obtain ⟨v, hv1, hv2⟩ := hI.o
    obtain ⟨av, cv, rfl⟩ := own_slice hv2
    have f0 := hI.f.cell (k := 0) rfl
    have o0 := hv1.cell (k := 0) rfl
    have oz := hv1.frozen 0
    have olt := hv1.lt
    have HW1 := hid (callsIn_wide (n := 0) |>.2 (HWt.out (pre.length : Int) ((own : Int) - (x : Int)) W hI.low))
    have HI := hid hI
    have HV1 := hid hv1
    have HV2 := hid hv2
    clear hI hv1 hv2 hSp
    by_cases hc : (pre.length : Int) < D ∧ (own : Int) - (x : Int) ≤ Wd
    · have hd : (decide ((pre.length : Int) < D) && decide ((own : Int) - (x : Int) ≤ Wd)) = true := by simp [hc]
      rw [hd] at HW1
      have HC := hid hc
      clear hc hd
      gi_wp2_with (first | (gi_at_builtin; refine Hid.out ?_) | (refine ⟨trivial, rfl, ?_⟩; refine HW1.out.mono ?_; rintro e w' ⟨rfl, rfl⟩))
      refine hid ?_
      refine wpListIn_append1 rfl _ _ 77 rfl 3 _ 1 8 Tryz.underlying77 Tryz.info_int rfl (by decide) (by decide) W (w.heap.size + 2) _ pre.length _ [.int .i64 (x : Int)] rfl ?hu rfl rfl (by exact HV2.out) ?hn HI.out.sz ?hk
      case hu => simp [Value.oneCell']
      case hn => omega
      case hk =>
        intro v' w3 hown' hg
        obtain ⟨av', cv', rfl⟩ := own_slice hown'
        have hf3 := HI.out.f.grown hg (own_ne HV2.out (by omega))
        have hv3 := HV1.out.grown hg (own_ne HV2.out (by omega))
        have o3 := hv3.cell (k := 0) rfl
        have z3 := hv3.frozen 0
        have hK1 : KeepsT (fun k => k < w.heap.size) w2.heap.size (fun t => t == 3) W w3 := keeps_own HV2.out hg rfl (fun k hk => by omega)
        have hK2 := hK1.trans (KeepsT.set w3 ⟨w.heap.size + 1, 0, none⟩ (.slice av' (pre.length + 1) cv') (by dsimp only; omega) (by dsimp only; omega))
        have hv4 := hv3.set 0 (.slice av' (pre.length + 1) cv')
        have hf4 := hf3.other (a := ⟨w.heap.size + 1, 0, none⟩) (.slice av' (pre.length + 1) cv') (by dsimp only; omega)
        have ho4 := own_far hown' (a := ⟨w.heap.size + 1, 0, none⟩) (.slice av' (pre.length + 1) cv') (by dsimp only; omega)
        have hb4 := (HI.out.low.grown hg HI.out.low.size (fun k hk => by have := (HV2.out.lt k hk).1; omega)).setCell (p := ⟨w.heap.size + 1, 0, none⟩) (Nat.le_succ _) (.slice av' (pre.length + 1) cv')
        have hs4 : w.heap.size + 2 ≤ (w3.setCell ⟨w.heap.size + 1, 0, none⟩ (.slice av' (pre.length + 1) cv')).heap.size := by
          have := hg.size
          have := HI.out.sz
          simp
          omega
        have HF := hid (And.intro hK2 (show Gath own Wd D 114 77 3 w (.func (.func 150) #[] #[.pointer (some ⟨c, 0, none⟩)]) (pre ++ [x]) (w3.setCell ⟨w.heap.size + 1, 0, none⟩ (.slice av' (pre.length + 1) cv')) from
          ⟨hf4, ⟨_, hv4, by rw [List.length_append, List.map_append]; exact ho4⟩, hb4, HI.out.took.next x HC.out.1 HC.out.2, hs4⟩))
        clear hK1 hK2 hv4 hf4 ho4 hb4 hs4 hf3 hv3 hown' hg f0 o0 oz olt
        gi_wp2
        exact HF.out
    · have hd : (decide ((pre.length : Int) < D) && decide ((own : Int) - (x : Int) ≤ Wd)) = false := by
        rw [← Bool.not_eq_true]
        simpa using hc
      rw [hd] at HW1
      have HX := hid (show GathX own Wd D 77 3 w 0 (.exit 0) (pre ++ [x]) W from ⟨rfl, ⟨_, pre, x, rfl, HI.out.took, hc, HV1.out, HV2.out⟩, HI.out.low⟩)
      clear hc hd
      gi_wp2_with (refine ⟨trivial, rfl, ?_⟩; refine HW1.out.mono ?_; rintro e w' ⟨rfl, rfl⟩)
      exact ⟨KeepsT.refl _ _ _ _, HX.out⟩
  case hrest =>
    rintro Dd xs W hD hF hK
    obtain ⟨v, h1, h2⟩ := hF.o
    obtain ⟨av, cv, rfl⟩ := own_slice h2
    have o0 := h1.cell (k := 0) rfl
    have oz := h1.frozen 0
    have hol := own_far h2 (a := ⟨w.heap.size + 1, 0, none⟩) (.slice av (candGo own Wd D l).length cv) (by dsimp only; omega)
    have h1s := h1.set 0 (.slice av (candGo own Wd D l).length cv)
    have hbl := hF.low.setCell (p := ⟨w.heap.size + 1, 0, none⟩) (Nat.le_succ _) (.slice av (candGo own Wd D l).length cv)
    have hKs : (W.setCell ⟨w.heap.size + 1, 0, none⟩ (.slice av (candGo own Wd D l).length cv)).heap[Dd]? = some (.deferred (some [])) := (Below.heap_setCell _ _ _ _ (by dsimp only; omega)).trans hK
    have HH := hid (And.intro hol (And.intro h1s (And.intro hbl hKs)))
    clear hol h1s hbl hKs h1 h2 hF hK
    go_wp2_with fail
    generalize W.setCell ⟨w.heap.size + 1, 0, none⟩ (.slice av (candGo own Wd D l).length cv) = W9 at *
    obtain ⟨hol, h1s, hbl, hKs⟩ := HH.out
    refine ⟨by simp, .inl ⟨_, _, rfl, run_takeDeferred hKs, ?_⟩⟩
    have k1 : ∀ o, Blk (W9.putObj Dd o) (w.heap.size + 1) [.slice av (candGo own Wd D l).length cv] 77 := fun o => (World.putObj_heap_other (by omega)).trans h1s
    have q1 := fun o => (k1 o).cell (k := 0) rfl
    refine ⟨.slice av (candGo own Wd D l).length cv, by simp [results, Tryz.results148, go_sem, q1], _, rfl, ?_, hbl.grown (grownBy_putObj' _ _ _) hbl.size (fun k hk => by cases hk; omega)⟩
    exact stays_own (β := Unit) 0 _ _ _ _ _ _ () W9 _ (some Dd) hol (grownBy_putObj' _ _ _) (fun r hr => by cases hr; exact ⟨Nat.zero_le _, _, hKs, rfl⟩)
end Go.Proofs.YtlgablepckmogaaGreat
namespace Go.Port
open Go.RowKit
/-- The candidates of a position of the data. -/
def candL (bs : List UInt8) (A : Nat) (W D p : Int) : List Nat := if 0 ≤ p ∧ p ≤ (bs.length : Int) - A then candS bs (A + p.toNat) W D else []
theorem candL_length (bs : List UInt8) (A : Nat) (W D p : Int) : (candL bs A W D p).length ≤ bs.length := by
  unfold candL
  split
  · have := candS_length bs (A + p.toNat) W D
    omega
  · simp
theorem candL_deep (bs : List UInt8) (A : Nat) (W D p : Int) (hD : 0 ≤ D) : ((candL bs A W D p).length : Int) ≤ D := by
  unfold candL candS
  split
  · split
    · exact (@candGo_length _ W (hits bs _) D).2 hD
    · simpa using hD
  · simpa using hD
theorem chainS_le {bs : List UInt8} {p : Int} {q : Nat} (h : q ∈ chainS bs p) : q < bs.length := by
  unfold chainS at h
  split at h
  · have := (hitsGo_lt bs _ _ q h).1
    omega
  · simp at h
theorem natI_map (l : List Nat) : l.map natI = (l.map fun (p : Nat) => (p : Int)).map iv := by
  rw [List.map_map]
  rfl
end Go.Port
namespace Go.Proofs.YtlgablepckmogaaGreat
open Go.RowKit Go.Port
set_option maxRecDepth 100000 in
set_option maxHeartbeats 2000000 in
theorem ccand_any (bs : List UInt8) (A : Nat) (W D : Int) (F : Nat) (p : Int) (w : World) (h : FdAt 50 79 bs A W D F w) :
    Calls Tryz.prog 127 #[.pointer (some ⟨F, 0, none⟩), .int .i64 p] w fun e w' => ∃ v, e = .returned v ∧ w'.ownsRow w.heap.size 3 1 v (candL bs A W D p).length ((candL bs A W D p).map natI) ∧ Below w.heap.size w w' := by
  have hbx := Blk.new w [.pointer (some ⟨F, 0, none⟩)] 24
  have hB1 := below_new w (.cells #[.pointer (some ⟨F, 0, none⟩)] 24)
  have HOw := hid (cown_any bs A W D F p _ (h.low hB1))
  have HF := hid (h.low hB1)
  have HBx := hid hbx
  have HB1 := hid hB1
  clear h hbx hB1
  by_cases hc : 0 ≤ p ∧ p ≤ (bs.length : Int) - A
  · rw [if_pos hc] at HOw
    obtain ⟨P, rfl⟩ : ∃ P : Nat, p = (P : Int) := ⟨p.toNat, by omega⟩
    have hcl : candL bs A W D (P : Int) = candGo (A + P) W D (chainS bs ((A + P : Nat) : Int)) := by
      unfold candL
      rw [if_pos hc, Int.toNat_natCast, candS_chain]
    have HCl := hid hcl
    have hn := HF.out.hn
    have hA := HF.out.hA
    have hAP : ((A : Int) + (P : Int)) = ((A + P : Nat) : Int) := by omega
    rw [hAP] at HOw
    have HAP := hid (show A + P ≤ 1000000 by omega)
    have HN := hid hn
    clear hc hcl hAP hn hA
    generalize A + P = own at *
    go_enter Tryz.func127, Tryz.ntmps127
    go_wp2_with fail
    refine HOw.out.mono ?_
    rintro e w' ⟨rfl, m, rfl⟩
    have hF1 := HF.out.drew m
    have hbx1 : Blk ((w.alloc (.cells #[.pointer (some ⟨F, 0, none⟩)] 24)).drewN m) w.heap.size [.pointer (some ⟨F, 0, none⟩)] 24 := HBx.out
    have hB2 := below_drewN HB1.out m
    generalize ((w.alloc (.cells #[.pointer (some ⟨F, 0, none⟩)] 24)).drewN m) = w1 at *
    obtain ⟨X, va, ca, f1, f2, f3, f4, f5⟩ := hF1.ex
    have q0 := f1.cell (k := 0) rfl
    have x0 := hbx1.cell (k := 0) rfl
    have HCh := hid (xchain_any bs X (own : Int) w1 HN.out f2)
    have HF1 := hid hF1
    have HX1 := hid hbx1
    have HB2 := hid hB2
    clear hF1 hbx1 hB2 f1 f2 f3 f4 f5 HF HBx HB1
    go_wp2_with fail
    refine HCh.out.mono ?_
    rintro e w2 ⟨g, k, a, c, rfl, hg, hk, hcl, hb⟩
    have hll := chainS_length bs (own : Int)
    have HG := hid (cgath_any bs A W D F w.heap.size g k own a c (chainS bs (own : Int)) w2 (HF1.out.low hb) ((HX1.out.below hb HX1.out.lt).cell (k := 0) rfl) (by have := HN.out; omega) HAP.out (fun x hx => by have := chainS_le hx; have := HN.out; omega) (hg.cell (k := 0) rfl) (hk.cell (k := 0) rfl) hcl)
    have HB3 := hid (HB2.out.trans (hb.mono HB2.out.size))
    have hs3 := HB3.out.size
    clear hg hk hcl hb hll HX1 HF1 HCh q0 x0
    go_wp2_with fail
    refine HG.out.mono ?_
    rintro e w3 ⟨v, rfl, hown, hb⟩
    have HO := hid (own_le hown (show w.heap.size ≤ w2.heap.size + 2 by omega))
    have HB4 := hid (HB3.out.trans (hb.mono HB3.out.size))
    clear hown hb HG
    go_wp2
    go_ret
    rw [HCl.out]
    exact ⟨_, rfl, HO.out, HB4.out⟩
  · rw [if_neg hc] at HOw
    have hcl : candL bs A W D p = [] := by
      unfold candL
      rw [if_neg hc]
    rw [hcl]
    clear hcl hc
    go_enter Tryz.func127, Tryz.ntmps127
    go_wp2_with fail
    refine HOw.out.mono ?_
    rintro e w' ⟨rfl, m, rfl⟩
    have HB2 := hid (below_drewN HB1.out m)
    go_wp2
    go_ret
    exact ⟨_, rfl, World.ownsRow_nil _ _ _ _, HB2.out⟩
set_option maxRecDepth 100000 in
set_option maxHeartbeats 4000000 in
theorem cfind_any (bs : List UInt8) (A : Nat) (W D : Int) (F : Nat) (p : Int) (w : World) (h : FdAt 50 79 bs A W D F w) :
    Calls Tryz.prog 101 #[.pointer (some ⟨F, 0, none⟩), .int .i64 p] w (RetV w (.tuple #[sqv ((findS bs A W D p).getD Sq.zero), .bool (findS bs A W D p).isSome])) := by
  have hbx := Blk.new w [.int .i64 0, .int .i64 0, .int .i64 0] 43
  have hB1 := below_new w (.cells #[.int .i64 0, .int .i64 0, .int .i64 0] 43)
  have HCa := hid (ccand_any bs A W D F p _ (h.low hB1))
  have HF := hid (h.low hB1)
  have HBx := hid hbx
  have HB1 := hid hB1
  have hll : (candL bs A W D p).length ≤ 4096 := by have := candL_deep bs A W D p (by have := h.hD; omega); have := h.hD; omega
  have HLl := hid hll
  clear h hbx hB1 hll
  by_cases h0 : (candL bs A W D p).length = 0
  · have hn0 : candL bs A W D p = [] := List.eq_nil_of_length_eq_zero h0
    have hf : findS bs A W D p = none := by
      unfold findS
      unfold candL at hn0
      split
      · rename_i hc
        rw [if_pos hc] at hn0
        rw [hn0]
        rfl
      · rfl
    rw [hf]
    rw [hn0] at HCa
    clear h0 hn0 hf HLl
    go_enter Tryz.func101, Tryz.ntmps101
    go_wp2_with fail
    refine HCa.out.mono ?_
    rintro e w1 ⟨v, rfl, hown, hb⟩
    obtain ⟨av, cv, rfl⟩ := own_slice hown
    have hx1 := HBx.out.below hb HBx.out.lt
    have z0 := hx1.frozen 0
    have z1 := hx1.frozen 1
    have z2 := hx1.frozen 2
    have p0 := hx1.cell (k := 0) rfl
    have p1 := hx1.cell (k := 1) rfl
    have p2 := hx1.cell (k := 2) rfl
    have HX := hid (((hx1.set 0 (.int .i64 0)).set 1 (.int .i64 0)).set 2 (.int .i64 0))
    have hb1 := HB1.out.trans (hb.mono HB1.out.size)
    have HB := hid (((hb1.setCell (p := ⟨w.heap.size, 0, none⟩) (Nat.le_refl _) (.int .i64 0)).setCell (p := ⟨w.heap.size, 1, none⟩) (Nat.le_refl _) (.int .i64 0)).setCell (p := ⟨w.heap.size, 2, none⟩) (Nat.le_refl _) (.int .i64 0))
    clear hown hb hx1 hb1
    go_wp2
    have r0 := HX.out.cell (k := 0) rfl
    have r1 := HX.out.cell (k := 1) rfl
    have r2 := HX.out.cell (k := 2) rfl
    have hb9 := HB.out
    clear HX HB z0 z1 z2 p0 p1 p2
    generalize ((w1.setCell ⟨w.heap.size, 0, none⟩ (.int .i64 0)).setCell ⟨w.heap.size, 1, none⟩ (.int .i64 0)).setCell ⟨w.heap.size, 2, none⟩ (.int .i64 0) = W9 at *
    refine bodyPost_ret (v := .tuple #[.agg #[.int .i64 0, .int .i64 0, .int .i64 0], .bool false]) (by simp [results, Tryz.results101, go_sem, r0, r1, r2]) rfl ?_
    exact ⟨rfl, hb9⟩
  · have hc : 0 ≤ p ∧ p ≤ (bs.length : Int) - A := by
      by_cases hc : 0 ≤ p ∧ p ≤ (bs.length : Int) - A
      · exact hc
      · exact absurd (by unfold candL; rw [if_neg hc]; rfl) h0
    obtain ⟨P, rfl⟩ : ∃ P : Nat, p = (P : Int) := ⟨p.toNat, by omega⟩
    have hfd : findS bs A W D (P : Int) = bestS bs ((A + P : Nat) : Int) bs.length ((candL bs A W D (P : Int)).map fun (q : Nat) => (q : Int)) := by
      unfold findS candL
      rw [if_pos hc, if_pos hc, Int.toNat_natCast]
    have HOw := hid (fun W' (hW : Below w.heap.size w W') (hF : FdAt 50 79 bs A W D F W') => cown_any bs A W D F (P : Int) W' hF)
    rw [if_pos hc] at HOw
    have hAP : ((A : Int) + (P : Int)) = ((A + P : Nat) : Int) := by omega
    rw [hAP] at HOw
    rw [hfd]
    have hn := HF.out.hn
    have HL0 := hid h0
    have HN := hid hn
    have hlen0 : ((candL bs A W D (P : Int)).length : Int) ≠ 0 := by omega
    have hlenb : (((candL bs A W D (P : Int)).length : Int) == 0) = false := by simpa using h0
    clear hfd hc hAP h0 hlen0
    generalize A + P = own at *
    generalize candL bs A W D (P : Int) = l at *
    go_enter Tryz.func101, Tryz.ntmps101
    go_wp2_with fail
    refine HCa.out.mono ?_
    rintro e w1 ⟨v, rfl, hown, hb⟩
    obtain ⟨av, cv, rfl⟩ := own_slice hown
    have hF1 := HF.out.low hb
    have hB1 := HB1.out.trans (hb.mono HB1.out.size)
    have hX1 := HBx.out.below hb HBx.out.lt
    have HO1 := hid hown
    have HF1 := hid hF1
    have HB2 := hid hB1
    have HX1 := hid hX1
    clear hown hb hF1 hB1 hX1 HCa HF HBx HB1
    go_wp2_with fail
    refine (HOw.out w1 HB2.out HF1.out).mono ?_
    rintro e w' ⟨rfl, m, rfl⟩
    have hF3 := HF1.out.drew m
    have hX3 : Blk (w1.drewN m) w.heap.size [.int .i64 0, .int .i64 0, .int .i64 0] 43 := HX1.out
    have hB3 := below_drewN HB2.out m
    have hO3 : (w1.drewN m).ownsRow (w.alloc (.cells #[.int .i64 0, .int .i64 0, .int .i64 0] 43)).heap.size 3 1 (.slice av l.length cv) l.length (l.map natI) := HO1.out
    generalize w1.drewN m = w3 at *
    obtain ⟨X, va, ca, f1, f2, f3, f4, f5⟩ := hF3.ex
    have f1l := f1.lt
    have hXl := hX3.lt
    have hcp := (Sl.of_owns hO3).cap rfl
    have hl1 : l.length ≤ cv := hcp.1
    have HBe := hid (fun W' (hW : Below w3.heap.size w3 W') => best_any va av ca l.length bs (own : Int) bs.length (l.map fun (q : Nat) => (q : Int)) W' (by have := HN.out; omega) f3 (by have := HLl.out; simp; omega) (f5.low hW) (by
      rw [← natI_map]
      exact ((Sl.of_owns hO3).cells' rfl).low hW))
    rw [List.length_map] at HBe
    have HB3 := hid hB3
    have HX3 := hid hX3
    have hlI : (l.length : Int) ≤ 9223372036854775807 := by have := HLl.out; have := HN.out; omega
    generalize hoo : bestS bs (own : Int) bs.length (l.map fun (q : Nat) => (q : Int)) = o at *
    have HOo := hid hoo
    clear hoo
    have HBe2 := hid (fun W' (hW : Below w3.heap.size w3 W') => (show Calls Tryz.prog 129 #[.slice va bs.length ca, .int .i64 (own : Int), .int .i64 (bs.length : Int), .slice av l.length l.length] W' (RetV W' (.tuple #[.agg #[.int .i64 (o.getD Sq.zero).lit, .int .i64 (o.getD Sq.zero).len, .int .i64 (o.getD Sq.zero).off], .bool o.isSome])) from HBe.out W' hW))
    clear hF3 hX3 hB3 hO3 f2 f4 f5 hcp HBe HO1 HF1 HB2 HX1 HOw
    go_wp2_with fail
    have g1 := f1.cell (k := 1) rfl
    have HL1 := hid hl1
    have HLen := hid hlenb
    clear hlenb hl1
    have hFX := blk_ne f1 HX3.out (by decide)
    refine wp_region_noPanic ?_
    refine wp_region_held_drew (S := fun W' => W'.cell? ⟨F, 1, none⟩ = some (.slice va bs.length ca)) (by kernel_rfl) g1 (fun hHeld => ?_)
    refine wpAnyH_take (i := 0) (v := .pointer (some ⟨F, 0, none⟩)) (by simp only [List.getElem?_toArray, List.getElem?_cons_zero]; rfl) (by kernel_rfl) (by kernel_rfl) (by kernel_rfl) (fun _ _ _ h => h) (Or.inl ⟨by rfl, fun W hSw => ?_⟩) (by assumption) ?_
    · clear hSw
      go_simp
    simp only [Act.put, List.setIfInBounds_toArray, List.set_cons_zero, List.set_cons_succ]
    refine wpAnyH_take (i := 1) (v := .pointer (some ⟨F, 0, none⟩)) (by simp only [List.getElem?_toArray, List.getElem?_cons_zero, List.getElem?_cons_succ]; rfl) (by kernel_rfl) (by kernel_rfl) (by kernel_rfl) (fun _ _ _ h => h) (Or.inl ⟨by rfl, fun W hSw => ?_⟩) (by assumption) ?_
    · clear hSw
      go_simp
    simp only [Act.put, List.setIfInBounds_toArray, List.set_cons_zero, List.set_cons_succ]
    refine wpAnyH_take (i := 2) (v := .pointer (some ⟨F, 1, none⟩)) (by simp only [List.getElem?_toArray, List.getElem?_cons_zero, List.getElem?_cons_succ]; rfl) (by kernel_rfl) (by kernel_rfl) (by kernel_rfl) (fun _ _ _ h => h) (Or.inl ⟨by rfl, fun W hSw => ?_⟩) (by assumption) ?_
    · clear hSw
      go_simp
    simp only [Act.put, List.setIfInBounds_toArray, List.set_cons_zero, List.set_cons_succ]
    refine wpAnyH_take (i := 3) (v := .slice va bs.length ca) (by simp only [List.getElem?_toArray, List.getElem?_cons_zero, List.getElem?_cons_succ]; rfl) (by kernel_rfl) (by kernel_rfl) (by kernel_rfl) (fun _ _ _ h => h) (Or.inl ⟨by rfl, fun W hSw => ?_⟩) (by assumption) ?_
    · have hcw := hSw
      go_simp
    simp only [Act.put, List.setIfInBounds_toArray, List.set_cons_zero, List.set_cons_succ]
    refine wpAnyH_take (i := 4) (v := .int .i64 (own : Int)) (by simp only [List.getElem?_toArray, List.getElem?_cons_zero, List.getElem?_cons_succ]; rfl) (by kernel_rfl) (by kernel_rfl) (by kernel_rfl) (fun _ _ _ h => h) (Or.inl ⟨by rfl, fun W hSw => ?_⟩) (by assumption) ?_
    · clear hSw
      go_simp
    simp only [Act.put, List.setIfInBounds_toArray, List.set_cons_zero, List.set_cons_succ]
    refine wpAnyH_take (i := 5) (v := .pointer (some ⟨F, 0, none⟩)) (by simp only [List.getElem?_toArray, List.getElem?_cons_zero, List.getElem?_cons_succ]; rfl) (by kernel_rfl) (by kernel_rfl) (by kernel_rfl) (fun _ _ _ h => h) (Or.inl ⟨by rfl, fun W hSw => ?_⟩) (by assumption) ?_
    · clear hSw
      go_simp
    simp only [Act.put, List.setIfInBounds_toArray, List.set_cons_zero, List.set_cons_succ]
    refine wpAnyH_take (i := 6) (v := .pointer (some ⟨F, 0, none⟩)) (by simp only [List.getElem?_toArray, List.getElem?_cons_zero, List.getElem?_cons_succ]; rfl) (by kernel_rfl) (by kernel_rfl) (by kernel_rfl) (fun _ _ _ h => h) (Or.inl ⟨by rfl, fun W hSw => ?_⟩) (by assumption) ?_
    · clear hSw
      go_simp
    simp only [Act.put, List.setIfInBounds_toArray, List.set_cons_zero, List.set_cons_succ]
    refine wpAnyH_take (i := 7) (v := .pointer (some ⟨F, 1, none⟩)) (by simp only [List.getElem?_toArray, List.getElem?_cons_zero, List.getElem?_cons_succ]; rfl) (by kernel_rfl) (by kernel_rfl) (by kernel_rfl) (fun _ _ _ h => h) (Or.inl ⟨by rfl, fun W hSw => ?_⟩) (by assumption) ?_
    · clear hSw
      go_simp
    simp only [Act.put, List.setIfInBounds_toArray, List.set_cons_zero, List.set_cons_succ]
    refine wpAnyH_take (i := 8) (v := .slice va bs.length ca) (by simp only [List.getElem?_toArray, List.getElem?_cons_zero, List.getElem?_cons_succ]; rfl) (by kernel_rfl) (by kernel_rfl) (by kernel_rfl) (fun _ _ _ h => h) (Or.inl ⟨by rfl, fun W hSw => ?_⟩) (by assumption) ?_
    · have hcw := hSw
      go_simp
    simp only [Act.put, List.setIfInBounds_toArray, List.set_cons_zero, List.set_cons_succ]
    refine wpAnyH_take (i := 9) (v := .int .i64 (bs.length : Int)) (by simp only [List.getElem?_toArray, List.getElem?_cons_zero, List.getElem?_cons_succ]; rfl) (by kernel_rfl) (by kernel_rfl) (by kernel_rfl) (fun _ _ _ h => h) (Or.inl ⟨by rfl, fun W hSw => ?_⟩) (by assumption) ?_
    · clear hSw
      go_simp
    simp only [Act.put, List.setIfInBounds_toArray, List.set_cons_zero, List.set_cons_succ]
    refine wpAnyH_take (i := 10) (v := .slice av l.length cv) (by simp only [List.getElem?_toArray, List.getElem?_cons_zero, List.getElem?_cons_succ]; rfl) (by kernel_rfl) (by kernel_rfl) (by kernel_rfl) (fun _ _ _ h => h) (Or.inl ⟨by rfl, fun W hSw => ?_⟩) (by assumption) ?_
    · clear hSw
      go_simp
    simp only [Act.put, List.setIfInBounds_toArray, List.set_cons_zero, List.set_cons_succ]
    refine wpAnyH_take (i := 11) (v := .slice av l.length cv) (by simp only [List.getElem?_toArray, List.getElem?_cons_zero, List.getElem?_cons_succ]; rfl) (by kernel_rfl) (by kernel_rfl) (by kernel_rfl) (fun _ _ _ h => h) (Or.inl ⟨by rfl, fun W hSw => ?_⟩) (by assumption) ?_
    · clear hSw
      go_simp
    simp only [Act.put, List.setIfInBounds_toArray, List.set_cons_zero, List.set_cons_succ]
    refine wpAnyH_take (i := 12) (v := .int .i64 (l.length : Int)) (by simp only [List.getElem?_toArray, List.getElem?_cons_zero, List.getElem?_cons_succ]; rfl) (by kernel_rfl) (by kernel_rfl) (by kernel_rfl) (fun _ _ _ h => h) (Or.inl ⟨by rfl, fun W hSw => ?_⟩) (by assumption) ?_
    · clear hSw
      go_simp
    simp only [Act.put, List.setIfInBounds_toArray, List.set_cons_zero, List.set_cons_succ]
    refine wpAnyH_take (i := 13) (v := .slice av l.length cv) (by simp only [List.getElem?_toArray, List.getElem?_cons_zero, List.getElem?_cons_succ]; rfl) (by kernel_rfl) (by kernel_rfl) (by kernel_rfl) (fun _ _ _ h => h) (Or.inl ⟨by rfl, fun W hSw => ?_⟩) (by assumption) ?_
    · clear hSw
      go_simp
    simp only [Act.put, List.setIfInBounds_toArray, List.set_cons_zero, List.set_cons_succ]
    refine wpAnyH_take (i := 14) (v := .int .i64 (l.length : Int)) (by simp only [List.getElem?_toArray, List.getElem?_cons_zero, List.getElem?_cons_succ]; rfl) (by kernel_rfl) (by kernel_rfl) (by kernel_rfl) (fun _ _ _ h => h) (Or.inl ⟨by rfl, fun W hSw => ?_⟩) (by assumption) ?_
    · clear hSw
      go_simp
    simp only [Act.put, List.setIfInBounds_toArray, List.set_cons_zero, List.set_cons_succ]
    refine wpAnyH_take (i := 15) (v := .slice av l.length l.length) (by simp only [List.getElem?_toArray, List.getElem?_cons_zero, List.getElem?_cons_succ]; rfl) (by kernel_rfl) (by kernel_rfl) (by kernel_rfl) (fun _ _ _ h => h) (Or.inl ⟨by rfl, fun W hSw => ?_⟩) (by assumption) ?_
    · have hcv := HL1.out
      go_simp
    simp only [Act.put, List.setIfInBounds_toArray, List.set_cons_zero, List.set_cons_succ]
    refine wpAnyH_ready (rs := [16]) (by kernel_rfl) (by simp) ?_
    refine AllReadyH.cons (by simp only [List.getElem?_toArray, List.getElem?_cons_zero, List.getElem?_cons_succ]; rfl) (fun K hK => ?_) AllReadyH.nil
    rw [if_pos (by rfl)]
    go_simp
    go_at_call 129
    refine (HBe2.out w3.drew (Below.refl _ _).drew).mono ?_
    rintro e w5 ⟨rfl, hb5⟩
    dsimp only
    have hb35 : Below w3.heap.size w3 w5 := (show Below w3.heap.size w3 w3.drew from (Below.refl _ _).drew).trans hb5
    have g5 := (hb35.cell (p := ⟨F, 1, none⟩) f1l).trans g1
    refine hK.out _ _ g5 (fun _ => ?_)
    clear hK K
    have hX5 := HX3.out.below hb35 HX3.out.lt
    have z0 := hX5.frozen 0
    have z1 := hX5.frozen 1
    have z2 := hX5.frozen 2
    have p0 := hX5.cell (k := 0) rfl
    have p1 := hX5.cell (k := 1) rfl
    have p2 := hX5.cell (k := 2) rfl
    have HX := hid (((hX5.set 0 (.int .i64 (o.getD Sq.zero).lit)).set 1 (.int .i64 (o.getD Sq.zero).len)).set 2 (.int .i64 (o.getD Sq.zero).off))
    have hb6 := HB3.out.trans (hb35.mono HB3.out.size)
    have HB := hid (((hb6.setCell (p := ⟨w.heap.size, 0, none⟩) (Nat.le_refl _) (.int .i64 (o.getD Sq.zero).lit)).setCell (p := ⟨w.heap.size, 1, none⟩) (Nat.le_refl _) (.int .i64 (o.getD Sq.zero).len)).setCell (p := ⟨w.heap.size, 2, none⟩) (Nat.le_refl _) (.int .i64 (o.getD Sq.zero).off))
    have hFl5 : F < w5.heap.size := Nat.lt_of_lt_of_le f1l hb35.size
    have hf6 := ((((f1.below hb35 f1l).other (a := ⟨w.heap.size, 0, none⟩) (.int .i64 (o.getD Sq.zero).lit) (Ne.symm hFX)).other (a := ⟨w.heap.size, 1, none⟩) (.int .i64 (o.getD Sq.zero).len) (Ne.symm hFX)).other (a := ⟨w.heap.size, 2, none⟩) (.int .i64 (o.getD Sq.zero).off) (Ne.symm hFX)).cell (k := 1) rfl
    clear hb35 hb5 hX5 hb6 f1
    refine wpAnyH_take (i := 17) (v := .agg #[.int .i64 (o.getD Sq.zero).lit, .int .i64 (o.getD Sq.zero).len, .int .i64 (o.getD Sq.zero).off]) (by simp only [List.getElem?_toArray, List.getElem?_cons_zero, List.getElem?_cons_succ]; rfl) (by kernel_rfl) (by kernel_rfl) (by kernel_rfl) (fun _ _ _ h => h) (Or.inl ⟨by rfl, fun W hSw => ?_⟩) (by assumption) ?_
    · clear hSw
      go_simp
    simp only [Act.put, List.setIfInBounds_toArray, List.set_cons_zero, List.set_cons_succ]
    refine wpAnyH_take (i := 18) (v := .bool o.isSome) (by simp only [List.getElem?_toArray, List.getElem?_cons_zero, List.getElem?_cons_succ]; rfl) (by kernel_rfl) (by kernel_rfl) (by kernel_rfl) (fun _ _ _ h => h) (Or.inl ⟨by rfl, fun W hSw => ?_⟩) (by assumption) ?_
    · clear hSw
      go_simp
    simp only [Act.put, List.setIfInBounds_toArray, List.set_cons_zero, List.set_cons_succ]
    refine wpAnyH_ready (rs := [19]) (by kernel_rfl) (by simp) ?_
    refine AllReadyH.cons (by simp only [List.getElem?_toArray, List.getElem?_cons_zero, List.getElem?_cons_succ]; rfl) (fun K hK => ?_) AllReadyH.nil
    rw [if_pos (by rfl)]
    go_simp
    refine hK.out _ _ hf6 (fun _ => ?_)
    clear hK K
    refine wpAnyH_ready (rs := [20]) (by kernel_rfl) (by simp) ?_
    refine AllReadyH.cons (by simp only [List.getElem?_toArray, List.getElem?_cons_zero, List.getElem?_cons_succ]; rfl) (fun K hK => ?_) AllReadyH.nil
    rw [if_pos (by rfl)]
    go_simp
    refine hK.out _ _ hf6 (fun _ => ?_)
    clear hK K
    refine wpAnyH_done (by kernel_rfl) ?_ _
    refine NoPanic.normal ?_
    clear hf6 p0 p1 p2 z0 z1 z2 g5 g1
    go_wp2
    have r0 := HX.out.cell (k := 0) rfl
    have r1 := HX.out.cell (k := 1) rfl
    have r2 := HX.out.cell (k := 2) rfl
    have hb9 := HB.out
    clear HX HB
    generalize ((w5.setCell ⟨w.heap.size, 0, none⟩ (.int .i64 (o.getD Sq.zero).lit)).setCell ⟨w.heap.size, 1, none⟩ (.int .i64 (o.getD Sq.zero).len)).setCell ⟨w.heap.size, 2, none⟩ (.int .i64 (o.getD Sq.zero).off) = W9 at *
    refine bodyPost_ret (v := .tuple #[sqv (o.getD Sq.zero), .bool o.isSome]) (by simp [results, Tryz.results101, go_sem, r0, r1, r2, sqv]) rfl ?_
    exact ⟨by rw [HOo.out], hb9⟩
end Go.Proofs.YtlgablepckmogaaGreat
