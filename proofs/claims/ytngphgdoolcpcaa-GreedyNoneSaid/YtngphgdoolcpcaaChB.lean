/-
  The walks of layer 29, second part: New; a finder in memory.
-/
import Derived.Test.YtngphgdoolcpcaaChA
namespace Go.Port
open Go.RowKit
/-- The finder of bytes bs (A of them history), window W, depth D lies at F. -/
structure FdAt (tf tix : TypeId) (bs : List UInt8) (A : Nat) (W D : Int) (F : Nat) (w : World) : Prop where
  ex : ∃ X va ca, Blk w F [.pointer (some ⟨X, 0, none⟩), .slice va bs.length ca, .int .i64 (A : Int), .int .i64 W, .int .i64 D] tf ∧ IxAt tix bs X w ∧ bs.length ≤ ca ∧ (va = none → ca = 0) ∧ CellsAt w va (bs.map bv)
  hA : A ≤ bs.length
  hn : bs.length ≤ 1000000
  hW : 1 ≤ W ∧ W ≤ 134217728
  hD : 1 ≤ D ∧ D ≤ 4096
theorem FdAt.low {tf tix : TypeId} {bs : List UInt8} {A : Nat} {W D : Int} {F : Nat} {w w' : World} (h : FdAt tf tix bs A W D F w) (hb : Below w.heap.size w w') : FdAt tf tix bs A W D F w' := by
  obtain ⟨X, va, ca, h1, h2, h3, h4, h5⟩ := h.ex
  exact ⟨⟨X, va, ca, h1.below hb h1.lt, h2.low hb, h3, h4, h5.low hb⟩, h.hA, h.hn, h.hW, h.hD⟩
theorem FdAt.drew {tf tix : TypeId} {bs : List UInt8} {A : Nat} {W D : Int} {F : Nat} {w : World} (h : FdAt tf tix bs A W D F w) (n : Nat) : FdAt tf tix bs A W D F (w.drewN n) := h.low (below_drewN (Below.refl _ _) n)
theorem FdAt.lt {tf tix : TypeId} {bs : List UInt8} {A : Nat} {W D : Int} {F : Nat} {w : World} (h : FdAt tf tix bs A W D F w) : F < w.heap.size := by
  obtain ⟨X, va, ca, h1, h2, h3, h4, h5⟩ := h.ex
  exact h1.lt
theorem own_oth {w w' : World} {base sz n : Nat} {e : TypeId} {v : Value} {xs : List Value} (h : w.ownsRow base e sz v n xs) (ho : ∀ b, base ≤ b → b < w.heap.size → w'.heap[b]? = w.heap[b]?) : w'.ownsRow base e sz v n xs := by
  obtain ⟨h1, h2⟩ := h
  rcases h2 with h2 | ⟨g, cap, cur, hv, h3, h4, h5⟩
  · exact ⟨h1, .inl h2⟩
  · exact ⟨h1, .inr ⟨g, cap, cur, hv, h3, (ho g h3 (Array.getElem?_eq_some_iff.1 h4).1).trans h4, h5⟩⟩
/-- A finder all of whose blocks lie at B or above. -/
def FdS (B : Nat) (tf tix : TypeId) (bs : List UInt8) (A : Nat) (W D : Int) (F : Nat) (w : World) : Prop :=
  B ≤ F ∧ ∀ w', (∀ k, B ≤ k → k < w.heap.size → w'.heap[k]? = w.heap[k]?) → FdAt tf tix bs A W D F w'
theorem FdS.at {B : Nat} {tf tix : TypeId} {bs : List UInt8} {A : Nat} {W D : Int} {F : Nat} {w : World} (h : FdS B tf tix bs A W D F w) : FdAt tf tix bs A W D F w := h.2 w fun _ _ _ => rfl
theorem FdS.low {B : Nat} {tf tix : TypeId} {bs : List UInt8} {A : Nat} {W D : Int} {F : Nat} {w w' : World} (h : FdS B tf tix bs A W D F w) (hb : Below w.heap.size w w') : FdS B tf tix bs A W D F w' :=
  ⟨h.1, fun w'' hs => h.2 w'' fun k h1 h2 => (hs k h1 (Nat.lt_of_lt_of_le h2 hb.size)).trans (hb.block k h2)⟩
theorem FdS.set {B : Nat} {tf tix : TypeId} {bs : List UInt8} {A : Nat} {W D : Int} {F : Nat} {w : World} (h : FdS B tf tix bs A W D F w) {a : Addr} (ha : a.block < B) (u : Value) : FdS B tf tix bs A W D F (w.setCell a u) :=
  ⟨h.1, fun w'' hs => h.2 w'' fun k h1 h2 => (hs k h1 (by simpa using h2)).trans (Below.heap_setCell w a u k (by omega))⟩
/-- May a finder be made? -/
def finderOk (n : Nat) (W D : Int) : Bool := decide (1 ≤ W) && decide (W ≤ 134217728) && decide (1 ≤ D) && decide (D ≤ 4096) && decide (n ≤ 131072)
end Go.Port
namespace Go.Proofs.Ytngphgdoolcpcaa
open Go.RowKit Go.Port

set_option maxRecDepth 100000 in
set_option maxHeartbeats 4000000 in
theorem cnew_ok (a1 a2 : Option Addr) (c1 c2 : Nat) (A D : List UInt8) (W dep : Int) (w : World) (hA : A.length ≤ 800000) (hD : (D.length : Int) ≤ 131072) (h1 : A.length ≤ c1) (h2 : D.length ≤ c2) (h3 : a1 = none → c1 = 0) (h4 : a2 = none → c2 = 0)
    (hc1 : CellsAt w a1 (A.map bv)) (hc2 : CellsAt w a2 (D.map bv)) (hW : 1 ≤ W) (hW2 : W ≤ 134217728) (hd : 1 ≤ dep) (hd2 : dep ≤ 4096) :
    Calls Try.prog 26 #[.slice a1 A.length c1, .slice a2 D.length c2, .int .i64 W, .int .i64 dep] w fun e w' => ∃ F, e = .returned (.tuple #[.pointer (some ⟨F, 0, none⟩), .int .i64 0]) ∧ FdS w.heap.size 57 119 (A ++ D) A.length W dep F w' ∧ Below w.heap.size w w' := by
  obtain ⟨bs, hbs⟩ : ∃ bs, A ++ D = bs := ⟨_, rfl⟩
  have hbl : bs.length = A.length + D.length := by rw [← hbs, List.length_append]
  have HBs := hid hbs
  have HBl := hid hbl
  rw [hbs]
  clear hbs hbl
  have HC1 := hid hc1
  have HC2 := hid hc2
  have HN := hid (xnew_any w)
  have HAl := hid hA
  have hAI : (A.length : Int) ≤ 800000 := by omega
  clear hc1 hc2 hA
  go_enter Try.func26, Try.ntmps26
  go_wp2_with fail
  refine wp_scope_straight ?_
  go_wp2_with fail
  refine HN.out.mono ?_
  rintro e w1 ⟨X, m1, m2, rfl, hX1, hX2, h12, bX, b1, b2, hix, hk1, hk2, hb1⟩
  have hXl := hix.lt
  have hml1 := hk1.lt
  have hml2 := hk2.lt
  have HK := hid (And.intro hix (And.intro hk1 (And.intro hk2 hb1)))
  have hs1 : w.heap.size ≤ w1.heap.size := hb1.size
  have hbB := below_new w1 (.cells #[.slice a1 A.length c1, .slice a2 D.length c2] 22)
  have HCo := hid (xconcat_any w1.heap.size a1 a2 c1 c2 A D (w1.alloc (.cells #[.slice a1 A.length c1, .slice a2 D.length c2] 22)) (by have := HAl.out; omega) (by omega) h1 h2 h3 h4 (Blk.new w1 _ _) ((HC1.out.low hb1).low hbB) ((HC2.out.low hb1).low hbB))
  rw [HBs.out] at HCo
  have HI := hid (And.intro hX1 (And.intro hX2 h12))
  clear hix hk1 hk2 hb1 hbB HN hX1 hX2 h12
  go_wp2_with fail
  refine HCo.out.mono ?_
  rintro e w2 ⟨v, rfl, hown, hb2⟩
  obtain ⟨va, ca, rfl⟩ := own_slice hown
  have hsb : (w1.alloc (.cells #[.slice a1 A.length c1, .slice a2 D.length c2] 22)).heap.size = w1.heap.size + 1 := by simp
  have hb12 : Below w1.heap.size w1 w2 := (below_new w1 (.cells #[.slice a1 A.length c1, .slice a2 D.length c2] 22)).trans (hb2.mono (by omega))
  rw [hsb] at hown
  have HO := hid hown
  have HB12 := hid hb12
  have hs2 : w1.heap.size ≤ w2.heap.size := hb12.size
  clear hown hb2 hb12 hsb HCo
  go_wp2_with fail
  obtain ⟨hix, hk1, hk2, hb1⟩ := HK.out
  have hB3 : Below w1.heap.size w1 (w2.alloc (.cells #[.pointer (some ⟨X, 0, none⟩), .slice va bs.length ca, .int .i64 (A.length : Int), .int .i64 W, .int .i64 dep] 57)) := HB12.out.alloc hs2 _
  have hF3 := Blk.new w2 [.pointer (some ⟨X, 0, none⟩), .slice va bs.length ca, .int .i64 (A.length : Int), .int .i64 W, .int .i64 dep] 57
  have hO3 := HO.out.alloc (.cells #[.pointer (some ⟨X, 0, none⟩), .slice va bs.length ca, .int .i64 (A.length : Int), .int .i64 W, .int .i64 dep] 57)
  have hs3 : (w2.alloc (.cells #[.pointer (some ⟨X, 0, none⟩), .slice va bs.length ca, .int .i64 (A.length : Int), .int .i64 W, .int .i64 dep] 57)).heap.size = w2.heap.size + 1 := by simp
  generalize (w2.alloc (.cells #[.pointer (some ⟨X, 0, none⟩), .slice va bs.length ca, .int .i64 (A.length : Int), .int .i64 W, .int .i64 dep] 57)) = w3 at *
  have hcp := (Sl.of_owns hO3).cap rfl
  have hce := (Sl.of_owns hO3).cells' rfl
  have hlen : bs.length ≤ 1000000 := by have := HAl.out; have := HBl.out; omega
  have hI : IxB w.heap.size w3.drew.heap.size X m1 m2 := ⟨(by show X < w3.heap.size; omega), (by show m1 < w3.heap.size; omega), (by show m2 < w3.heap.size; omega), HI.out.1, HI.out.2.1, HI.out.2.2, bX, b1, b2⟩
  have HAdd := hid (xadd_any w.heap.size X m1 m2 va ca bs w3.drew hlen hcp.1 hcp.2 hI (by show w.heap.size ≤ w3.heap.size; omega) (hix.below hB3.drew hix.lt) (hk1.low hB3.drew) (hk2.low hB3.drew) hce)
  have HO3 := hid hO3
  have HB03 := hid (hb1.trans (hB3.mono hs1))
  have HF3 := hid hF3
  have HCp := hid hcp
  have HLn := hid hlen
  have hFl : w2.heap.size < w3.heap.size := by omega
  have hFs : w1.heap.size ≤ w2.heap.size := hs2

  clear hix hk1 hk2 hb1 hO3 hB3 hI hce hcp HK HO HB12 HC1 HC2 hF3 hs3 hlen
  generalize w2.heap.size = F at *
  refine wp_region_noPanic ?_
  refine wp_region_held_drew (S := fun W' => Blk W' F [.pointer (some ⟨X, 0, none⟩), .slice va bs.length ca, .int .i64 (A.length : Int), .int .i64 W, .int .i64 dep] 57) (by kernel_rfl) HF3.out (fun hHeld => ?_)
  refine wpAnyH_take (i := 0) (v := .pointer (some ⟨F, 0, none⟩)) (by simp only [List.getElem?_toArray, List.getElem?_cons_zero]; rfl) (by kernel_rfl) (by kernel_rfl) (by kernel_rfl) (fun _ _ _ h => h) (Or.inl ⟨by rfl, fun W hSw => ?_⟩) (by assumption) ?_
  · clear hSw
    go_simp
  simp only [Act.put, List.setIfInBounds_toArray, List.set_cons_zero, List.set_cons_succ]
  refine wpAnyH_take (i := 1) (v := .pointer (some ⟨F, 0, none⟩)) (by simp only [List.getElem?_toArray, List.getElem?_cons_zero, List.getElem?_cons_succ]; rfl) (by kernel_rfl) (by kernel_rfl) (by kernel_rfl) (fun _ _ _ h => h) (Or.inl ⟨by rfl, fun W hSw => ?_⟩) (by assumption) ?_
  · clear hSw
    go_simp
  simp only [Act.put, List.setIfInBounds_toArray, List.set_cons_zero, List.set_cons_succ]
  refine wpAnyH_take (i := 2) (v := .pointer (some ⟨F, 0, none⟩)) (by simp only [List.getElem?_toArray, List.getElem?_cons_zero, List.getElem?_cons_succ]; rfl) (by kernel_rfl) (by kernel_rfl) (by kernel_rfl) (fun _ _ _ h => h) (Or.inl ⟨by rfl, fun W hSw => ?_⟩) (by assumption) ?_
  · clear hSw
    go_simp
  simp only [Act.put, List.setIfInBounds_toArray, List.set_cons_zero, List.set_cons_succ]
  refine wpAnyH_take (i := 3) (v := .pointer (some ⟨X, 0, none⟩)) (by simp only [List.getElem?_toArray, List.getElem?_cons_zero, List.getElem?_cons_succ]; rfl) (by kernel_rfl) (by kernel_rfl) (by kernel_rfl) (fun _ _ _ h => h) (Or.inl ⟨by rfl, fun W hSw => ?_⟩) (by assumption) ?_
  · have hcw := hSw.cell (k := 0) rfl
    go_simp
  simp only [Act.put, List.setIfInBounds_toArray, List.set_cons_zero, List.set_cons_succ]
  refine wpAnyH_take (i := 4) (v := .pointer (some ⟨F, 0, none⟩)) (by simp only [List.getElem?_toArray, List.getElem?_cons_zero, List.getElem?_cons_succ]; rfl) (by kernel_rfl) (by kernel_rfl) (by kernel_rfl) (fun _ _ _ h => h) (Or.inl ⟨by rfl, fun W hSw => ?_⟩) (by assumption) ?_
  · clear hSw
    go_simp
  simp only [Act.put, List.setIfInBounds_toArray, List.set_cons_zero, List.set_cons_succ]
  refine wpAnyH_take (i := 5) (v := .pointer (some ⟨F, 0, none⟩)) (by simp only [List.getElem?_toArray, List.getElem?_cons_zero, List.getElem?_cons_succ]; rfl) (by kernel_rfl) (by kernel_rfl) (by kernel_rfl) (fun _ _ _ h => h) (Or.inl ⟨by rfl, fun W hSw => ?_⟩) (by assumption) ?_
  · clear hSw
    go_simp
  simp only [Act.put, List.setIfInBounds_toArray, List.set_cons_zero, List.set_cons_succ]
  refine wpAnyH_take (i := 6) (v := .pointer (some ⟨F, 1, none⟩)) (by simp only [List.getElem?_toArray, List.getElem?_cons_zero, List.getElem?_cons_succ]; rfl) (by kernel_rfl) (by kernel_rfl) (by kernel_rfl) (fun _ _ _ h => h) (Or.inl ⟨by rfl, fun W hSw => ?_⟩) (by assumption) ?_
  · clear hSw
    go_simp
  simp only [Act.put, List.setIfInBounds_toArray, List.set_cons_zero, List.set_cons_succ]
  refine wpAnyH_take (i := 7) (v := .slice va bs.length ca) (by simp only [List.getElem?_toArray, List.getElem?_cons_zero, List.getElem?_cons_succ]; rfl) (by kernel_rfl) (by kernel_rfl) (by kernel_rfl) (fun _ _ _ h => h) (Or.inl ⟨by rfl, fun W hSw => ?_⟩) (by assumption) ?_
  · have hcw := hSw.cell (k := 1) rfl
    go_simp
  simp only [Act.put, List.setIfInBounds_toArray, List.set_cons_zero, List.set_cons_succ]
  refine wpAnyH_ready (rs := [8]) (by kernel_rfl) (by simp) ?_
  refine AllReadyH.cons (by simp only [List.getElem?_toArray, List.getElem?_cons_zero, List.getElem?_cons_succ]; rfl) (fun K hK => ?_) AllReadyH.nil
  rw [if_pos (by rfl)]
  go_simp
  go_at_call 44
  refine HAdd.out.mono ?_
  rintro e w4 ⟨rfl, vb, vp, hR⟩
  dsimp only
  have hF4 : Blk w4 F [.pointer (some ⟨X, 0, none⟩), .slice va bs.length ca, .int .i64 (A.length : Int), .int .i64 W, .int .i64 dep] 57 := (hR.oth F (show F < w3.heap.size from hFl) (by omega) (by omega) (by omega)).trans HF3.out
  have hO4 := own_oth (w' := w4) HO3.out (fun b hb hb' => hR.oth b hb' (by omega) (by omega) (by omega))
  refine hK.out _ _ hF4 (fun _ => ?_)
  clear hK K
  obtain ⟨ap, cp, rfl⟩ := own_slice hR.rp
  have HFd := hid (show FdS w.heap.size 57 119 bs A.length W dep F w4 from ⟨by omega, fun w5 hs => ⟨⟨X, va, ca, (hs F (by omega) hF4.lt).trans hF4, ⟨_, _, _, ap, cp, (hs X bX hR.ix.lt).trans hR.ix, ((Sl.of_owns hR.rp).cap rfl).1, (Sl.of_owns (own_oth (w' := w5) hR.rp (fun b hb hb' => hs b (by have : w3.drew.heap.size = w3.heap.size := rfl; omega) hb'))).cells' rfl⟩, HCp.out.1, HCp.out.2, (Sl.of_owns (own_oth (w' := w5) hO4 (fun b hb hb' => hs b (by omega) hb'))).cells' rfl⟩, (by have := HBl.out; omega), HLn.out, ⟨hW, hW2⟩, ⟨hd, hd2⟩⟩⟩)
  have HB4 := hid (HB03.out.drew.trans (hR.below))
  refine wpAnyH_done (by kernel_rfl) ?_ _
  refine NoPanic.normal ?_
  clear hF4 hO4 hR HAdd HF3
  go_wp2
  simp only [Exit.noGoto_ret]
  go_ret2
  exact ⟨F, rfl, HFd.out, HB4.out⟩

end Go.Proofs.Ytngphgdoolcpcaa
