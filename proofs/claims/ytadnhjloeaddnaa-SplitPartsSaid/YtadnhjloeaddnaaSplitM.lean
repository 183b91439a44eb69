/-
  The walks of the split, thirteenth part: the iterator is made.
-/
import Derived.Test.YtadnhjloeaddnaaSplitL
import Derived.Deep.RegionLawGrows
namespace Go.Port
open Go.RowKit

theorem own_low {w w' : World} {B sz n : Nat} {e : TypeId} {v : Value} {xs : List Value} (h : w.ownsRow B e sz v n xs) (hb : Below w.heap.size w w') : w'.ownsRow B e sz v n xs :=
  h.kept (grown_of_below hb) (by cases hv : v.ownBlock <;> simp)
theorem own_le {w : World} {base base' sz n : Nat} {e : TypeId} {v : Value} {xs : List Value} (h : w.ownsRow base e sz v n xs) (hb : base' ≤ base) : w.ownsRow base' e sz v n xs := by
  obtain ⟨h1, h2⟩ := h
  rcases h2 with h2 | ⟨g, cap, cur, hv, h3, h4⟩
  · exact ⟨h1, .inl h2⟩
  · exact ⟨h1, .inr ⟨g, cap, cur, hv, Nat.le_trans hb h3, h4⟩⟩
/-- A store into a block of cells of another type leaves the row. -/
theorem own_apart {w : World} {base sz n b : Nat} {e t : TypeId} {v : Value} {xs vs : List Value} (h : w.ownsRow base e sz v n xs) (hb : Blk w b vs t) (ht : t ≠ e) (k : Nat) (u : Value) : (w.setCell ⟨b, k, none⟩ u).ownsRow base e sz v n xs := by
  obtain ⟨h1, h2⟩ := h
  rcases h2 with h2 | ⟨g, cap, cur, hv, h3, h4, h5⟩
  · exact ⟨h1, .inl h2⟩
  · refine ⟨h1, .inr ⟨g, cap, cur, hv, h3, (Below.heap_setCell w _ u g (fun e' => ?_)).trans h4, h5⟩⟩
    dsimp only at e'
    subst e'
    unfold Blk at hb
    rw [hb] at h4
    simp only [Option.some.injEq, Obj.cells.injEq] at h4
    exact ht h4.2.1
theorem Blk.ne {w : World} {b b' : Nat} {vs vs' : List Value} {t t' : TypeId} (h : Blk w b vs t) (h' : Blk w b' vs' t') (ht : t ≠ t') : b ≠ b' := by
  rintro rfl
  unfold Blk at h h'
  rw [h] at h'
  simp only [Option.some.injEq, Obj.cells.injEq] at h'
  exact ht h'.2.1

theorem below_none {A B : World} (h : A.grownBy B none) : Below A.heap.size A B := ⟨h.os, h.tape, h.output, h.size, fun k hk => h.block k hk (by simp)⟩

/-- Where the region of the maker stands: what has been done (b..) has left this. -/
structure PG (w : World) (t25 t29 t3 t5 : TypeId) (bs : List UInt8) (cuts : List Int) (n n2 : Nat) (b1 b10 b11 b12 b13 : Bool) (v5 v6 v8 v17 v18 : Value) (W : World) : Prop where
  below : Below w.heap.size w W
  f5 : b12 = true → ∃ p, v5 = .pointer (some ⟨p, 0, none⟩) ∧ w.heap.size ≤ p ∧ Blk W p [.slice none 0 0] t25
  f6 : b13 = true → ∃ p, v6 = .pointer (some ⟨p, 0, none⟩) ∧ w.heap.size ≤ p ∧ Blk W p [.slice none 0 0] t29
  f8 : b1 = true → W.ownsRow w.heap.size t5 1 v8 n (bs.map bv)
  f17 : b10 = true → ∃ p, v17 = .slice (some ⟨p, 0, none⟩) 1 1 ∧ Blk W p [iv n] t3
  f18 : b11 = true → W.ownsRow w.heap.size t3 1 v18 (n2 + 1) ((cuts ++ [(bs.length : Int)]).map iv)

section
variable {w : World} {t25 t29 t3 t5 : TypeId} {bs : List UInt8} {cuts : List Int} {n n2 : Nat} {b1 b10 b11 b12 b13 : Bool} {v5 v6 v8 v17 v18 : Value} {W W' : World}
theorem PG.low (h : PG w t25 t29 t3 t5 bs cuts n n2 b1 b10 b11 b12 b13 v5 v6 v8 v17 v18 W) (hb : Below W.heap.size W W') : PG w t25 t29 t3 t5 bs cuts n n2 b1 b10 b11 b12 b13 v5 v6 v8 v17 v18 W' :=
  ⟨h.below.trans (hb.mono h.below.size), fun e => let ⟨p, h1, h2, h3⟩ := h.f5 e; ⟨p, h1, h2, h3.below hb h3.lt⟩, fun e => let ⟨p, h1, h2, h3⟩ := h.f6 e; ⟨p, h1, h2, h3.below hb h3.lt⟩,
    fun e => own_low (h.f8 e) hb, fun e => let ⟨p, h1, h2⟩ := h.f17 e; ⟨p, h1, h2.below hb h2.lt⟩, fun e => own_low (h.f18 e) hb⟩
theorem PG.did1 (h : PG w t25 t29 t3 t5 bs cuts n n2 b1 b10 b11 b12 b13 v5 v6 v8 v17 v18 W) (hb : Below W.heap.size W W') {v : Value} (hv : W'.ownsRow W.heap.size t5 1 v n (bs.map bv)) :
    PG w t25 t29 t3 t5 bs cuts n n2 true b10 b11 b12 b13 v5 v6 v v17 v18 W' :=
  ⟨(h.low hb).below, (h.low hb).f5, (h.low hb).f6, fun _ => own_le hv h.below.size, (h.low hb).f17, (h.low hb).f18⟩
theorem PG.did11 (h : PG w t25 t29 t3 t5 bs cuts n n2 b1 b10 b11 b12 b13 v5 v6 v8 v17 v18 W) (hb : Below W.heap.size W W') {v : Value} (hv : W'.ownsRow W.heap.size t3 1 v (n2 + 1) ((cuts ++ [(bs.length : Int)]).map iv)) :
    PG w t25 t29 t3 t5 bs cuts n n2 b1 b10 true b12 b13 v5 v6 v8 v17 v W' :=
  ⟨(h.low hb).below, (h.low hb).f5, (h.low hb).f6, (h.low hb).f8, (h.low hb).f17, fun _ => own_le hv h.below.size⟩
theorem PG.did10 (h : PG w t25 t29 t3 t5 bs cuts n n2 b1 b10 b11 b12 b13 v5 v6 v8 v17 v18 W) :
    PG w t25 t29 t3 t5 bs cuts n n2 b1 true b11 b12 b13 v5 v6 v8 (.slice (some ⟨W.heap.size, 0, none⟩) 1 1) v18 (W.alloc (.cells #[.int .i64 n] t3)) :=
  have hb := below_new W (.cells #[.int .i64 n] t3)
  ⟨(h.low hb).below, (h.low hb).f5, (h.low hb).f6, (h.low hb).f8, fun _ => ⟨_, rfl, Blk.new W [iv n] t3⟩, (h.low hb).f18⟩
theorem PG.did12 (h : PG w t25 t29 t3 t5 bs cuts n n2 b1 b10 b11 b12 b13 v5 v6 v8 v17 v18 W) :
    PG w t25 t29 t3 t5 bs cuts n n2 b1 b10 b11 true b13 (.pointer (some ⟨W.heap.size, 0, none⟩)) v6 v8 v17 v18 (W.alloc (.cells #[.slice none 0 0] t25)) :=
  have hb := below_new W (.cells #[.slice none 0 0] t25)
  ⟨(h.low hb).below, fun _ => ⟨_, rfl, h.below.size, Blk.new W [.slice none 0 0] t25⟩, (h.low hb).f6, (h.low hb).f8, (h.low hb).f17, (h.low hb).f18⟩
theorem PG.did13 (h : PG w t25 t29 t3 t5 bs cuts n n2 b1 b10 b11 b12 b13 v5 v6 v8 v17 v18 W) :
    PG w t25 t29 t3 t5 bs cuts n n2 b1 b10 b11 b12 true v5 (.pointer (some ⟨W.heap.size, 0, none⟩)) v8 v17 v18 (W.alloc (.cells #[.slice none 0 0] t29)) :=
  have hb := below_new W (.cells #[.slice none 0 0] t29)
  ⟨(h.low hb).below, (h.low hb).f5, fun _ => ⟨_, rfl, h.below.size, Blk.new W [.slice none 0 0] t29⟩, (h.low hb).f8, (h.low hb).f17, (h.low hb).f18⟩
end
end Go.Port
namespace Go.Proofs.Ytadnhjloeaddnaa
open Go.RowKit Go.Port

/-- What the maker of the iterator leaves: two boxes, the copy of the data, the places. -/
def PartsAt (B : Nat) (bs : List UInt8) (cuts : List Int) (n2 : Nat) (p5 p6 : Nat) (W : World) : Prop :=
  ∃ vo vp, B ≤ p5 ∧ B ≤ p6 ∧ Blk W p5 [vo] 25 ∧ Blk W p6 [vp] 29 ∧ W.ownsRow B 5 1 vo bs.length (bs.map bv) ∧ W.ownsRow B 3 1 vp (n2 + 1) ((cuts ++ [(bs.length : Int)]).map iv)

set_option maxRecDepth 100000 in
set_option maxHeartbeats 4000000 in
theorem parts_any (a a2 : Option Addr) (n c n2 c2 : Nat) (bs : List UInt8) (cuts : List Int) (w : World) (hnb : n2 ≤ 9000) (hn : bs.length = n) (hNb : n ≤ 200000) (hn2 : cuts.length = n2) (hnc : n ≤ c) (hac : a = none → c = 0) (hnc2 : n2 ≤ c2) (hac2 : a2 = none → c2 = 0)
    (hc : ∀ j u, (bs.map bv)[j]? = some u → ∃ b off, a = some ⟨b, off, none⟩ ∧ b < w.heap.size ∧ w.cell? ⟨b, off + j, none⟩ = some u)
    (hc2 : ∀ j u, (cuts.map iv)[j]? = some u → ∃ b off, a2 = some ⟨b, off, none⟩ ∧ b < w.heap.size ∧ w.cell? ⟨b, off + j, none⟩ = some u) :
    Calls Try.prog 29 #[.slice a n c, .slice a2 n2 c2] w fun e w' => ∃ p5 p6, e = .returned (.func (.func 43) #[] #[.pointer (some ⟨p5, 0, none⟩), .pointer (some ⟨p6, 0, none⟩)]) ∧ PartsAt w.heap.size bs cuts n2 p5 p6 w' ∧ Below w.heap.size w w' := by
  have HC := hid hc
  have HC2 := hid hc2
  have HN := hid hn
  have HN2 := hid hn2
  clear hc hc2 hn hn2
  go_enter Try.func29, Try.ntmps29
  go_wp2
  refine wp_region_any (by kernel_rfl) ?_
  generalize hQ : (Exit.then _ _ : Exit → Act → World → Prop) = Q
  refine wpAny_take (i := 0) (v := .slice a n c) (by simp only [List.getElem?_toArray, List.getElem?_cons_zero]; rfl) (by kernel_rfl) (by kernel_rfl) (by kernel_rfl) (fun _ _ _ h => by subst hQ; exact h) (Or.inl ⟨by rfl, fun W => by go_simp⟩) ?_
  simp only [Act.put, List.setIfInBounds_toArray, List.set_cons_zero, List.set_cons_succ]
  refine wpAny_take (i := 2) (v := .slice a2 n2 c2) (by simp only [List.getElem?_toArray, List.getElem?_cons_zero, List.getElem?_cons_succ]; rfl) (by kernel_rfl) (by kernel_rfl) (by kernel_rfl) (fun _ _ _ h => by subst hQ; exact h) (Or.inl ⟨by rfl, fun W => by go_simp⟩) ?_
  simp only [Act.put, List.setIfInBounds_toArray, List.set_cons_zero, List.set_cons_succ]
  refine wpAny_take (i := 3) (v := .slice a2 n2 c2) (by simp only [List.getElem?_toArray, List.getElem?_cons_zero, List.getElem?_cons_succ]; rfl) (by kernel_rfl) (by kernel_rfl) (by kernel_rfl) (fun _ _ _ h => by subst hQ; exact h) (Or.inl ⟨by rfl, fun W => by go_simp⟩) ?_
  simp only [Act.put, List.setIfInBounds_toArray, List.set_cons_zero, List.set_cons_succ]
  refine wpAny_take (i := 4) (v := .int .i64 (n2 : Int)) (by simp only [List.getElem?_toArray, List.getElem?_cons_zero, List.getElem?_cons_succ]; rfl) (by kernel_rfl) (by kernel_rfl) (by kernel_rfl) (fun _ _ _ h => by subst hQ; exact h) (Or.inl ⟨by rfl, fun W => by go_simp⟩) ?_
  simp only [Act.put, List.setIfInBounds_toArray, List.set_cons_zero, List.set_cons_succ]
  refine wpAny_take (i := 5) (v := .slice a2 n2 c2) (by simp only [List.getElem?_toArray, List.getElem?_cons_zero, List.getElem?_cons_succ]; rfl) (by kernel_rfl) (by kernel_rfl) (by kernel_rfl) (fun _ _ _ h => by subst hQ; exact h) (Or.inl ⟨by rfl, fun W => by go_simp⟩) ?_
  simp only [Act.put, List.setIfInBounds_toArray, List.set_cons_zero, List.set_cons_succ]
  refine wpAny_take (i := 6) (v := .int .i64 (n2 : Int)) (by simp only [List.getElem?_toArray, List.getElem?_cons_zero, List.getElem?_cons_succ]; rfl) (by kernel_rfl) (by kernel_rfl) (by kernel_rfl) (fun _ _ _ h => by subst hQ; exact h) (Or.inl ⟨by rfl, fun W => by go_simp⟩) ?_
  simp only [Act.put, List.setIfInBounds_toArray, List.set_cons_zero, List.set_cons_succ]
  refine wpAny_take (i := 7) (v := .slice a2 n2 n2) (by simp only [List.getElem?_toArray, List.getElem?_cons_zero, List.getElem?_cons_succ]; rfl) (by kernel_rfl) (by kernel_rfl) (by kernel_rfl) (fun _ _ _ h => by subst hQ; exact h) (Or.inl ⟨by rfl, fun W => by go_simp⟩) ?_
  simp only [Act.put, List.setIfInBounds_toArray, List.set_cons_zero, List.set_cons_succ]
  refine wpAny_take (i := 8) (v := .slice a n c) (by simp only [List.getElem?_toArray, List.getElem?_cons_zero, List.getElem?_cons_succ]; rfl) (by kernel_rfl) (by kernel_rfl) (by kernel_rfl) (fun _ _ _ h => by subst hQ; exact h) (Or.inl ⟨by rfl, fun W => by go_simp⟩) ?_
  simp only [Act.put, List.setIfInBounds_toArray, List.set_cons_zero, List.set_cons_succ]
  refine wpAny_take (i := 9) (v := .int .i64 (n : Int)) (by simp only [List.getElem?_toArray, List.getElem?_cons_zero, List.getElem?_cons_succ]; rfl) (by kernel_rfl) (by kernel_rfl) (by kernel_rfl) (fun _ _ _ h => by subst hQ; exact h) (Or.inl ⟨by rfl, fun W => by go_simp⟩) ?_
  simp only [Act.put, List.setIfInBounds_toArray, List.set_cons_zero, List.set_cons_succ]
  have HPG0 := hid (show PG w 25 29 3 5 bs cuts n n2 false false false false false undef undef undef undef undef w.drew from
    ⟨(Below.refl _ w).drew, fun h => (by cases h), fun h => (by cases h), fun h => (by cases h), fun h => (by cases h), fun h => (by cases h)⟩)
  refine (fun (key : ∀ (N : Nat) (b1 b10 b11 b12 b13 : Bool) (v5 v6 v8 v17 v18 : Value) (W : World), (cond b1 0 1 + cond b10 0 1 + cond b11 0 1 + cond b12 0 1 + cond b13 0 1 : Nat) = N → (b11 = true → b1 = true ∧ b10 = true) →
      PG w 25 29 3 5 bs cuts n n2 b1 b10 b11 b12 b13 v5 v6 v8 v17 v18 W →
      wpAny Try.prog .any _ Q (N + 2) #[true, b1, true, true, true, true, true, true, true, true, b10, b11, b12, b13, false, false]
        { tmps := #[.slice a n c, .slice a2 n2 c2, undef, undef, .nilFunc, v5, v6, .slice a n c, v8, .slice a2 n2 c2, .slice a2 n2 c2, .int .i64 (n2 : Int), .slice a2 n2 c2, .int .i64 (n2 : Int), .slice a2 n2 n2, .slice a n c, .int .i64 (n : Int), v17, v18, undef], defers := [] } W) =>
    key 5 false false false false false _ _ _ _ _ _ rfl (fun h => by cases h) HPG0.out) ?_
  intro N
  induction N with
  | zero =>
    intro b1 b10 b11 b12 b13 v5 v6 v8 v17 v18 W hN himp hG
    have hall : b1 = true ∧ b11 = true ∧ b12 = true ∧ b13 = true := by
      revert hN
      cases b1 <;> cases b10 <;> cases b11 <;> cases b12 <;> cases b13 <;> simp
    obtain ⟨rfl, rfl, rfl, rfl⟩ := hall
    obtain ⟨_, rfl⟩ := himp rfl
    obtain ⟨p5, rfl, h5, hB5⟩ := hG.f5 rfl
    obtain ⟨p6, rfl, h6, hB6⟩ := hG.f6 rfl
    obtain ⟨a8, c8, rfl⟩ := own_slice (hG.f8 rfl)
    obtain ⟨a18, c18, rfl⟩ := own_slice (hG.f18 rfl)
    have hne : p5 ≠ p6 := hB5.ne hB6 (by decide)
    have k5 := hB5.cell (k := 0) rfl
    have z5 := hB5.frozen 0
    have hB6b := hB6.other (a := ⟨p5, 0, none⟩) (.slice a8 n c8) hne
    have k6 := hB6b.cell (k := 0) rfl
    have z6 := hB6b.frozen 0
    have hB5b := hB5.set 0 (.slice a8 n c8)
    have H8 := hid (own_apart (own_apart (hG.f8 rfl) hB5 (by decide) 0 (.slice a8 n c8)) hB6b (by decide) 0 (.slice a18 (n2 + 1) c18))
    have H18 := hid (own_apart (own_apart (hG.f18 rfl) hB5 (by decide) 0 (.slice a8 n c8)) hB6b (by decide) 0 (.slice a18 (n2 + 1) c18))
    have HB5 := hid (hB5b.other (a := ⟨p6, 0, none⟩) (.slice a18 (n2 + 1) c18) (Ne.symm hne))
    have HB6 := hid (hB6b.set 0 (.slice a18 (n2 + 1) c18))
    have HBW := hid ((hG.below.setCell (p := ⟨p5, 0, none⟩) h5 (.slice a8 n c8)).setCell (p := ⟨p6, 0, none⟩) h6 (.slice a18 (n2 + 1) c18))
    have H5 := hid h5
    have H6 := hid h6
    clear hG hB5 hB6 hB6b hB5b hN himp h5 h6
    refine wpAny_ready (rs := [14]) (by kernel_rfl) (by simp) ?_
    refine AllReady.cons (by simp only [List.getElem?_toArray, List.getElem?_cons_zero, List.getElem?_cons_succ]; rfl) (fun K hK => ?_) AllReady.nil
    rw [if_pos (by rfl)]
    go_simp
    refine hK _ _ ?_
    clear hK K
    refine wpAny_ready (rs := [15]) (by kernel_rfl) (by simp) ?_
    refine AllReady.cons (by simp only [List.getElem?_toArray, List.getElem?_cons_zero, List.getElem?_cons_succ]; rfl) (fun K hK => ?_) AllReady.nil
    rw [if_pos (by rfl)]
    go_simp
    refine hK _ _ ?_
    clear hK K
    refine wpAny_done (by kernel_rfl) ?_ _
    subst hQ
    dsimp only [Exit.then]
    go_wp2
    go_ret
    refine ⟨p5, p6, rfl, ⟨_, _, H5.out, H6.out, HB5.out, HB6.out, ?_, H18.out⟩, HBW.out⟩
    rw [HN.out]
    exact H8.out
  | succ N ih =>
    intro b1 b10 b11 b12 b13 v5 v6 v8 v17 v18 W hN himp hG
    have HG := hid hG
    have HI := hid ih
    have hW := hG.below
    clear hG ih
    have HCW := hid (fun j u hu => (show ∃ b off, a = some ⟨b, off, none⟩ ∧ b < W.heap.size ∧ W.cell? ⟨b, off + j, none⟩ = some u from by
      obtain ⟨b, off, h1, h2, h3⟩ := HC.out j u hu
      exact ⟨b, off, h1, Nat.lt_of_lt_of_le h2 hW.size, (hW.cell (p := ⟨b, off + j, none⟩) h2).trans h3⟩))
    have HC2W := hid (fun b' (hb' : a2 = some b') j u (hu : (cuts.map iv)[j]? = some u) => (show W.cell? (b'.add j) = some u from by
      obtain ⟨b, off, h1, h2, h3⟩ := HC2.out j u hu
      rw [h1] at hb'
      cases hb'
      rw [Addr.add_mid]
      exact (hW.cell (p := ⟨b, off + j, none⟩) h2).trans h3))
    have HQ := fun (q : Nat) (W : World) (hq : Blk W q [iv n] 3) (j : Nat) (u : Value) (hu : [iv n][j]? = some u) => (show W.cell? ((⟨q, 0, none⟩ : Addr).add j) = some u from by
      rw [Addr.add_mid, Nat.zero_add]
      exact hq.cell hu)
    have HA := hid (show a2 = none → n2 = 0 ∧ n2 = 0 from fun h => by have := hac2 h; omega)
    obtain ⟨i0, hi, hz0, hz1, hz2⟩ := info_parts Try.info_int
    cases b1 with
    | false =>
      cases b10 with
      | false =>
        cases b11 with
        | false =>
          cases b12 with
          | false =>
            cases b13 with
            | false =>
              refine wpAny_ready (rs := [1, 10, 12, 13]) (by kernel_rfl) (by simp) ?_
              refine AllReady.cons (by simp only [List.getElem?_toArray, List.getElem?_cons_zero, List.getElem?_cons_succ]; rfl) (fun K hK => ?_) ?_
              · rw [if_pos (by rfl)]
                go_simp
                go_at_call 42
                refine (clone_own a n c bs W HN.out (by omega) hnc hac (by exact HCW.out)).mono ?_
                rintro e W' ⟨v, rfl, hown, hb⟩
                exact hK _ _ (HI.out _ _ _ _ _ _ _ _ _ _ _ (by simp at hN ⊢; omega) (by simp) (HG.out.did1 hb hown))
              refine AllReady.cons (by simp only [List.getElem?_toArray, List.getElem?_cons_zero, List.getElem?_cons_succ]; rfl) (fun K hK => ?_) ?_
              · rw [if_pos (by rfl)]
                go_simp
                exact hK _ _ (HI.out _ _ _ _ _ _ _ _ _ _ _ (by simp at hN ⊢; omega) (by simp) HG.out.did10)
              refine AllReady.cons (by simp only [List.getElem?_toArray, List.getElem?_cons_zero, List.getElem?_cons_succ]; rfl) (fun K hK => ?_) ?_
              · rw [if_pos (by rfl)]
                go_simp
                exact hK _ _ (HI.out _ _ _ _ _ _ _ _ _ _ _ (by simp at hN ⊢; omega) (by simp) HG.out.did12)
              refine AllReady.cons (by simp only [List.getElem?_toArray, List.getElem?_cons_zero, List.getElem?_cons_succ]; rfl) (fun K hK => ?_) AllReady.nil
              rw [if_pos (by rfl)]
              go_simp
              exact hK _ _ (HI.out _ _ _ _ _ _ _ _ _ _ _ (by simp at hN ⊢; omega) (by simp) HG.out.did13)
            | true =>
              refine wpAny_ready (rs := [1, 10, 12]) (by kernel_rfl) (by simp) ?_
              refine AllReady.cons (by simp only [List.getElem?_toArray, List.getElem?_cons_zero, List.getElem?_cons_succ]; rfl) (fun K hK => ?_) ?_
              · rw [if_pos (by rfl)]
                go_simp
                go_at_call 42
                refine (clone_own a n c bs W HN.out (by omega) hnc hac (by exact HCW.out)).mono ?_
                rintro e W' ⟨v, rfl, hown, hb⟩
                exact hK _ _ (HI.out _ _ _ _ _ _ _ _ _ _ _ (by simp at hN ⊢; omega) (by simp) (HG.out.did1 hb hown))
              refine AllReady.cons (by simp only [List.getElem?_toArray, List.getElem?_cons_zero, List.getElem?_cons_succ]; rfl) (fun K hK => ?_) ?_
              · rw [if_pos (by rfl)]
                go_simp
                exact hK _ _ (HI.out _ _ _ _ _ _ _ _ _ _ _ (by simp at hN ⊢; omega) (by simp) HG.out.did10)
              refine AllReady.cons (by simp only [List.getElem?_toArray, List.getElem?_cons_zero, List.getElem?_cons_succ]; rfl) (fun K hK => ?_) AllReady.nil
              rw [if_pos (by rfl)]
              go_simp
              exact hK _ _ (HI.out _ _ _ _ _ _ _ _ _ _ _ (by simp at hN ⊢; omega) (by simp) HG.out.did12)
          | true =>
            cases b13 with
            | false =>
              refine wpAny_ready (rs := [1, 10, 13]) (by kernel_rfl) (by simp) ?_
              refine AllReady.cons (by simp only [List.getElem?_toArray, List.getElem?_cons_zero, List.getElem?_cons_succ]; rfl) (fun K hK => ?_) ?_
              · rw [if_pos (by rfl)]
                go_simp
                go_at_call 42
                refine (clone_own a n c bs W HN.out (by omega) hnc hac (by exact HCW.out)).mono ?_
                rintro e W' ⟨v, rfl, hown, hb⟩
                exact hK _ _ (HI.out _ _ _ _ _ _ _ _ _ _ _ (by simp at hN ⊢; omega) (by simp) (HG.out.did1 hb hown))
              refine AllReady.cons (by simp only [List.getElem?_toArray, List.getElem?_cons_zero, List.getElem?_cons_succ]; rfl) (fun K hK => ?_) ?_
              · rw [if_pos (by rfl)]
                go_simp
                exact hK _ _ (HI.out _ _ _ _ _ _ _ _ _ _ _ (by simp at hN ⊢; omega) (by simp) HG.out.did10)
              refine AllReady.cons (by simp only [List.getElem?_toArray, List.getElem?_cons_zero, List.getElem?_cons_succ]; rfl) (fun K hK => ?_) AllReady.nil
              rw [if_pos (by rfl)]
              go_simp
              exact hK _ _ (HI.out _ _ _ _ _ _ _ _ _ _ _ (by simp at hN ⊢; omega) (by simp) HG.out.did13)
            | true =>
              refine wpAny_ready (rs := [1, 10]) (by kernel_rfl) (by simp) ?_
              refine AllReady.cons (by simp only [List.getElem?_toArray, List.getElem?_cons_zero, List.getElem?_cons_succ]; rfl) (fun K hK => ?_) ?_
              · rw [if_pos (by rfl)]
                go_simp
                go_at_call 42
                refine (clone_own a n c bs W HN.out (by omega) hnc hac (by exact HCW.out)).mono ?_
                rintro e W' ⟨v, rfl, hown, hb⟩
                exact hK _ _ (HI.out _ _ _ _ _ _ _ _ _ _ _ (by simp at hN ⊢; omega) (by simp) (HG.out.did1 hb hown))
              refine AllReady.cons (by simp only [List.getElem?_toArray, List.getElem?_cons_zero, List.getElem?_cons_succ]; rfl) (fun K hK => ?_) AllReady.nil
              rw [if_pos (by rfl)]
              go_simp
              exact hK _ _ (HI.out _ _ _ _ _ _ _ _ _ _ _ (by simp at hN ⊢; omega) (by simp) HG.out.did10)
        | true =>
          cases b12 with
          | false =>
            cases b13 with
            | false =>
              exact absurd (himp rfl) (by simp)
            | true =>
              exact absurd (himp rfl) (by simp)
          | true =>
            cases b13 with
            | false =>
              exact absurd (himp rfl) (by simp)
            | true =>
              exact absurd (himp rfl) (by simp)
      | true =>
        cases b11 with
        | false =>
          cases b12 with
          | false =>
            cases b13 with
            | false =>
              refine wpAny_ready (rs := [1, 12, 13]) (by kernel_rfl) (by simp) ?_
              refine AllReady.cons (by simp only [List.getElem?_toArray, List.getElem?_cons_zero, List.getElem?_cons_succ]; rfl) (fun K hK => ?_) ?_
              · rw [if_pos (by rfl)]
                go_simp
                go_at_call 42
                refine (clone_own a n c bs W HN.out (by omega) hnc hac (by exact HCW.out)).mono ?_
                rintro e W' ⟨v, rfl, hown, hb⟩
                exact hK _ _ (HI.out _ _ _ _ _ _ _ _ _ _ _ (by simp at hN ⊢; omega) (by simp) (HG.out.did1 hb hown))
              refine AllReady.cons (by simp only [List.getElem?_toArray, List.getElem?_cons_zero, List.getElem?_cons_succ]; rfl) (fun K hK => ?_) ?_
              · rw [if_pos (by rfl)]
                go_simp
                exact hK _ _ (HI.out _ _ _ _ _ _ _ _ _ _ _ (by simp at hN ⊢; omega) (by simp) HG.out.did12)
              refine AllReady.cons (by simp only [List.getElem?_toArray, List.getElem?_cons_zero, List.getElem?_cons_succ]; rfl) (fun K hK => ?_) AllReady.nil
              rw [if_pos (by rfl)]
              go_simp
              exact hK _ _ (HI.out _ _ _ _ _ _ _ _ _ _ _ (by simp at hN ⊢; omega) (by simp) HG.out.did13)
            | true =>
              refine wpAny_ready (rs := [1, 12]) (by kernel_rfl) (by simp) ?_
              refine AllReady.cons (by simp only [List.getElem?_toArray, List.getElem?_cons_zero, List.getElem?_cons_succ]; rfl) (fun K hK => ?_) ?_
              · rw [if_pos (by rfl)]
                go_simp
                go_at_call 42
                refine (clone_own a n c bs W HN.out (by omega) hnc hac (by exact HCW.out)).mono ?_
                rintro e W' ⟨v, rfl, hown, hb⟩
                exact hK _ _ (HI.out _ _ _ _ _ _ _ _ _ _ _ (by simp at hN ⊢; omega) (by simp) (HG.out.did1 hb hown))
              refine AllReady.cons (by simp only [List.getElem?_toArray, List.getElem?_cons_zero, List.getElem?_cons_succ]; rfl) (fun K hK => ?_) AllReady.nil
              rw [if_pos (by rfl)]
              go_simp
              exact hK _ _ (HI.out _ _ _ _ _ _ _ _ _ _ _ (by simp at hN ⊢; omega) (by simp) HG.out.did12)
          | true =>
            cases b13 with
            | false =>
              refine wpAny_ready (rs := [1, 13]) (by kernel_rfl) (by simp) ?_
              refine AllReady.cons (by simp only [List.getElem?_toArray, List.getElem?_cons_zero, List.getElem?_cons_succ]; rfl) (fun K hK => ?_) ?_
              · rw [if_pos (by rfl)]
                go_simp
                go_at_call 42
                refine (clone_own a n c bs W HN.out (by omega) hnc hac (by exact HCW.out)).mono ?_
                rintro e W' ⟨v, rfl, hown, hb⟩
                exact hK _ _ (HI.out _ _ _ _ _ _ _ _ _ _ _ (by simp at hN ⊢; omega) (by simp) (HG.out.did1 hb hown))
              refine AllReady.cons (by simp only [List.getElem?_toArray, List.getElem?_cons_zero, List.getElem?_cons_succ]; rfl) (fun K hK => ?_) AllReady.nil
              rw [if_pos (by rfl)]
              go_simp
              exact hK _ _ (HI.out _ _ _ _ _ _ _ _ _ _ _ (by simp at hN ⊢; omega) (by simp) HG.out.did13)
            | true =>
              refine wpAny_ready (rs := [1]) (by kernel_rfl) (by simp) ?_
              refine AllReady.cons (by simp only [List.getElem?_toArray, List.getElem?_cons_zero, List.getElem?_cons_succ]; rfl) (fun K hK => ?_) AllReady.nil
              rw [if_pos (by rfl)]
              go_simp
              go_at_call 42
              refine (clone_own a n c bs W HN.out (by omega) hnc hac (by exact HCW.out)).mono ?_
              rintro e W' ⟨v, rfl, hown, hb⟩
              exact hK _ _ (HI.out _ _ _ _ _ _ _ _ _ _ _ (by simp at hN ⊢; omega) (by simp) (HG.out.did1 hb hown))
        | true =>
          cases b12 with
          | false =>
            cases b13 with
            | false =>
              exact absurd (himp rfl) (by simp)
            | true =>
              exact absurd (himp rfl) (by simp)
          | true =>
            cases b13 with
            | false =>
              exact absurd (himp rfl) (by simp)
            | true =>
              exact absurd (himp rfl) (by simp)
    | true =>
      cases b10 with
      | false =>
        cases b11 with
        | false =>
          cases b12 with
          | false =>
            cases b13 with
            | false =>
              refine wpAny_ready (rs := [10, 12, 13]) (by kernel_rfl) (by simp) ?_
              refine AllReady.cons (by simp only [List.getElem?_toArray, List.getElem?_cons_zero, List.getElem?_cons_succ]; rfl) (fun K hK => ?_) ?_
              · rw [if_pos (by rfl)]
                go_simp
                exact hK _ _ (HI.out _ _ _ _ _ _ _ _ _ _ _ (by simp at hN ⊢; omega) (by simp) HG.out.did10)
              refine AllReady.cons (by simp only [List.getElem?_toArray, List.getElem?_cons_zero, List.getElem?_cons_succ]; rfl) (fun K hK => ?_) ?_
              · rw [if_pos (by rfl)]
                go_simp
                exact hK _ _ (HI.out _ _ _ _ _ _ _ _ _ _ _ (by simp at hN ⊢; omega) (by simp) HG.out.did12)
              refine AllReady.cons (by simp only [List.getElem?_toArray, List.getElem?_cons_zero, List.getElem?_cons_succ]; rfl) (fun K hK => ?_) AllReady.nil
              rw [if_pos (by rfl)]
              go_simp
              exact hK _ _ (HI.out _ _ _ _ _ _ _ _ _ _ _ (by simp at hN ⊢; omega) (by simp) HG.out.did13)
            | true =>
              refine wpAny_ready (rs := [10, 12]) (by kernel_rfl) (by simp) ?_
              refine AllReady.cons (by simp only [List.getElem?_toArray, List.getElem?_cons_zero, List.getElem?_cons_succ]; rfl) (fun K hK => ?_) ?_
              · rw [if_pos (by rfl)]
                go_simp
                exact hK _ _ (HI.out _ _ _ _ _ _ _ _ _ _ _ (by simp at hN ⊢; omega) (by simp) HG.out.did10)
              refine AllReady.cons (by simp only [List.getElem?_toArray, List.getElem?_cons_zero, List.getElem?_cons_succ]; rfl) (fun K hK => ?_) AllReady.nil
              rw [if_pos (by rfl)]
              go_simp
              exact hK _ _ (HI.out _ _ _ _ _ _ _ _ _ _ _ (by simp at hN ⊢; omega) (by simp) HG.out.did12)
          | true =>
            cases b13 with
            | false =>
              refine wpAny_ready (rs := [10, 13]) (by kernel_rfl) (by simp) ?_
              refine AllReady.cons (by simp only [List.getElem?_toArray, List.getElem?_cons_zero, List.getElem?_cons_succ]; rfl) (fun K hK => ?_) ?_
              · rw [if_pos (by rfl)]
                go_simp
                exact hK _ _ (HI.out _ _ _ _ _ _ _ _ _ _ _ (by simp at hN ⊢; omega) (by simp) HG.out.did10)
              refine AllReady.cons (by simp only [List.getElem?_toArray, List.getElem?_cons_zero, List.getElem?_cons_succ]; rfl) (fun K hK => ?_) AllReady.nil
              rw [if_pos (by rfl)]
              go_simp
              exact hK _ _ (HI.out _ _ _ _ _ _ _ _ _ _ _ (by simp at hN ⊢; omega) (by simp) HG.out.did13)
            | true =>
              refine wpAny_ready (rs := [10]) (by kernel_rfl) (by simp) ?_
              refine AllReady.cons (by simp only [List.getElem?_toArray, List.getElem?_cons_zero, List.getElem?_cons_succ]; rfl) (fun K hK => ?_) AllReady.nil
              rw [if_pos (by rfl)]
              go_simp
              exact hK _ _ (HI.out _ _ _ _ _ _ _ _ _ _ _ (by simp at hN ⊢; omega) (by simp) HG.out.did10)
        | true =>
          cases b12 with
          | false =>
            cases b13 with
            | false =>
              exact absurd (himp rfl) (by simp)
            | true =>
              exact absurd (himp rfl) (by simp)
          | true =>
            cases b13 with
            | false =>
              exact absurd (himp rfl) (by simp)
            | true =>
              exact absurd (himp rfl) (by simp)
      | true =>
        cases b11 with
        | false =>
          cases b12 with
          | false =>
            cases b13 with
            | false =>
              refine wpAny_ready (rs := [11, 12, 13]) (by kernel_rfl) (by simp) ?_
              refine AllReady.cons (by simp only [List.getElem?_toArray, List.getElem?_cons_zero, List.getElem?_cons_succ]; rfl) (fun K hK => ?_) ?_
              · obtain ⟨q, rfl, hq⟩ := HG.out.f17 rfl
                refine step_append_grows rfl _ _ 29 rfl 3 i0 _ 1 8 Try.underlying29 hi hz0 hz1 hz2 rfl (by decide) a2 n2 n2 (cuts.map iv) rfl (by exact HA.out) (by simp [HN2.out]) (by exact HC2W.out) ⟨q, 0, none⟩ 1 1 [iv n] rfl rfl (by exact HQ q W hq) (by simp [Value.oneCell', iv]) (by omega) (by unfold maxLen; omega) (by omega) ?_
                intro v' W' hown hg
                refine hK _ _ (HI.out _ _ _ _ _ _ _ _ _ _ _ (by simp at hN ⊢; omega) (by simp) (HG.out.did11 (by exact below_none hg) (by rw [List.map_append, HN.out]; exact hown)))
              refine AllReady.cons (by simp only [List.getElem?_toArray, List.getElem?_cons_zero, List.getElem?_cons_succ]; rfl) (fun K hK => ?_) ?_
              · rw [if_pos (by rfl)]
                go_simp
                exact hK _ _ (HI.out _ _ _ _ _ _ _ _ _ _ _ (by simp at hN ⊢; omega) (by simp) HG.out.did12)
              refine AllReady.cons (by simp only [List.getElem?_toArray, List.getElem?_cons_zero, List.getElem?_cons_succ]; rfl) (fun K hK => ?_) AllReady.nil
              rw [if_pos (by rfl)]
              go_simp
              exact hK _ _ (HI.out _ _ _ _ _ _ _ _ _ _ _ (by simp at hN ⊢; omega) (by simp) HG.out.did13)
            | true =>
              refine wpAny_ready (rs := [11, 12]) (by kernel_rfl) (by simp) ?_
              refine AllReady.cons (by simp only [List.getElem?_toArray, List.getElem?_cons_zero, List.getElem?_cons_succ]; rfl) (fun K hK => ?_) ?_
              · obtain ⟨q, rfl, hq⟩ := HG.out.f17 rfl
                refine step_append_grows rfl _ _ 29 rfl 3 i0 _ 1 8 Try.underlying29 hi hz0 hz1 hz2 rfl (by decide) a2 n2 n2 (cuts.map iv) rfl (by exact HA.out) (by simp [HN2.out]) (by exact HC2W.out) ⟨q, 0, none⟩ 1 1 [iv n] rfl rfl (by exact HQ q W hq) (by simp [Value.oneCell', iv]) (by omega) (by unfold maxLen; omega) (by omega) ?_
                intro v' W' hown hg
                refine hK _ _ (HI.out _ _ _ _ _ _ _ _ _ _ _ (by simp at hN ⊢; omega) (by simp) (HG.out.did11 (by exact below_none hg) (by rw [List.map_append, HN.out]; exact hown)))
              refine AllReady.cons (by simp only [List.getElem?_toArray, List.getElem?_cons_zero, List.getElem?_cons_succ]; rfl) (fun K hK => ?_) AllReady.nil
              rw [if_pos (by rfl)]
              go_simp
              exact hK _ _ (HI.out _ _ _ _ _ _ _ _ _ _ _ (by simp at hN ⊢; omega) (by simp) HG.out.did12)
          | true =>
            cases b13 with
            | false =>
              refine wpAny_ready (rs := [11, 13]) (by kernel_rfl) (by simp) ?_
              refine AllReady.cons (by simp only [List.getElem?_toArray, List.getElem?_cons_zero, List.getElem?_cons_succ]; rfl) (fun K hK => ?_) ?_
              · obtain ⟨q, rfl, hq⟩ := HG.out.f17 rfl
                refine step_append_grows rfl _ _ 29 rfl 3 i0 _ 1 8 Try.underlying29 hi hz0 hz1 hz2 rfl (by decide) a2 n2 n2 (cuts.map iv) rfl (by exact HA.out) (by simp [HN2.out]) (by exact HC2W.out) ⟨q, 0, none⟩ 1 1 [iv n] rfl rfl (by exact HQ q W hq) (by simp [Value.oneCell', iv]) (by omega) (by unfold maxLen; omega) (by omega) ?_
                intro v' W' hown hg
                refine hK _ _ (HI.out _ _ _ _ _ _ _ _ _ _ _ (by simp at hN ⊢; omega) (by simp) (HG.out.did11 (by exact below_none hg) (by rw [List.map_append, HN.out]; exact hown)))
              refine AllReady.cons (by simp only [List.getElem?_toArray, List.getElem?_cons_zero, List.getElem?_cons_succ]; rfl) (fun K hK => ?_) AllReady.nil
              rw [if_pos (by rfl)]
              go_simp
              exact hK _ _ (HI.out _ _ _ _ _ _ _ _ _ _ _ (by simp at hN ⊢; omega) (by simp) HG.out.did13)
            | true =>
              refine wpAny_ready (rs := [11]) (by kernel_rfl) (by simp) ?_
              refine AllReady.cons (by simp only [List.getElem?_toArray, List.getElem?_cons_zero, List.getElem?_cons_succ]; rfl) (fun K hK => ?_) AllReady.nil
              obtain ⟨q, rfl, hq⟩ := HG.out.f17 rfl
              refine step_append_grows rfl _ _ 29 rfl 3 i0 _ 1 8 Try.underlying29 hi hz0 hz1 hz2 rfl (by decide) a2 n2 n2 (cuts.map iv) rfl (by exact HA.out) (by simp [HN2.out]) (by exact HC2W.out) ⟨q, 0, none⟩ 1 1 [iv n] rfl rfl (by exact HQ q W hq) (by simp [Value.oneCell', iv]) (by omega) (by unfold maxLen; omega) (by omega) ?_
              intro v' W' hown hg
              refine hK _ _ (HI.out _ _ _ _ _ _ _ _ _ _ _ (by simp at hN ⊢; omega) (by simp) (HG.out.did11 (by exact below_none hg) (by rw [List.map_append, HN.out]; exact hown)))
        | true =>
          cases b12 with
          | false =>
            cases b13 with
            | false =>
              refine wpAny_ready (rs := [12, 13]) (by kernel_rfl) (by simp) ?_
              refine AllReady.cons (by simp only [List.getElem?_toArray, List.getElem?_cons_zero, List.getElem?_cons_succ]; rfl) (fun K hK => ?_) ?_
              · rw [if_pos (by rfl)]
                go_simp
                exact hK _ _ (HI.out _ _ _ _ _ _ _ _ _ _ _ (by simp at hN ⊢; omega) (by simp) HG.out.did12)
              refine AllReady.cons (by simp only [List.getElem?_toArray, List.getElem?_cons_zero, List.getElem?_cons_succ]; rfl) (fun K hK => ?_) AllReady.nil
              rw [if_pos (by rfl)]
              go_simp
              exact hK _ _ (HI.out _ _ _ _ _ _ _ _ _ _ _ (by simp at hN ⊢; omega) (by simp) HG.out.did13)
            | true =>
              refine wpAny_ready (rs := [12]) (by kernel_rfl) (by simp) ?_
              refine AllReady.cons (by simp only [List.getElem?_toArray, List.getElem?_cons_zero, List.getElem?_cons_succ]; rfl) (fun K hK => ?_) AllReady.nil
              rw [if_pos (by rfl)]
              go_simp
              exact hK _ _ (HI.out _ _ _ _ _ _ _ _ _ _ _ (by simp at hN ⊢; omega) (by simp) HG.out.did12)
          | true =>
            cases b13 with
            | false =>
              refine wpAny_ready (rs := [13]) (by kernel_rfl) (by simp) ?_
              refine AllReady.cons (by simp only [List.getElem?_toArray, List.getElem?_cons_zero, List.getElem?_cons_succ]; rfl) (fun K hK => ?_) AllReady.nil
              rw [if_pos (by rfl)]
              go_simp
              exact hK _ _ (HI.out _ _ _ _ _ _ _ _ _ _ _ (by simp at hN ⊢; omega) (by simp) HG.out.did13)
            | true =>
              exact absurd hN (by simp)
end Go.Proofs.Ytadnhjloeaddnaa
