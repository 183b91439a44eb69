/-
  The walks of layer 28, for the law of the iteration: slices.All over a row of sequences; the iterator over matches.
-/
import Derived.Test.YtaoiaiddamnbiaaMatchE
import Derived.Test.YtaoiaiddamnbiaaMatchF
import Derived.Test.YtaoiaiddamnbiaaRangeSt
import Derived.OwnWalkIn
import Derived.TacticsInMore
import Derived.LoopNIn
import Derived.LoopIn
import Derived.WalkMore
namespace Go.Port
open Go.RowKit

/-- The cells in the blocks of X that lay lie. -/
def TrX (X : Nat → Prop) (W W' : World) : Prop := ∀ (a : Addr) (u : Value), X a.block → W.cell? a = some u → W'.cell? a = some u
theorem TrX.refl (X : Nat → Prop) (W : World) : TrX X W W := fun _ _ _ h => h
theorem TrX.trans {X : Nat → Prop} {A B C : World} (h : TrX X A B) (k : TrX X B C) : TrX X A C := fun a u ha hu => k a u ha (h a u ha hu)
theorem TrX.low {X : Nat → Prop} {A B : World} (h : Below A.heap.size A B) : TrX X A B := fun a _ _ hu => (h.cell (World.block_lt_of_cell? A a hu)).trans hu
theorem TrX.of_keeps {X : Nat → Prop} {D : Nat} {T : TypeId → Bool} {A B : World} (h : KeepsT X D T A B) : TrX X A B := fun _ _ ha hu => h.cell ha hu

/-- The elements with their numbers. -/
def enumS (l : List Sq) : List (Int × Sq) := l.zipIdx.map fun p => ((p.2 : Int), p.1)
theorem enumS_snoc (l : List Sq) (x : Sq) : enumS (l ++ [x]) = enumS l ++ [((l.length : Int), x)] := by
  unfold enumS
  rw [List.zipIdx_append, List.map_append]
  simp
theorem enumS_snd (l : List Sq) : (enumS l).map (·.2) = l := by
  unfold enumS
  rw [List.map_map]
  have : ((fun p : Int × Sq => p.2) ∘ fun p : Sq × Nat => ((p.2 : Int), p.1)) = Prod.fst := rfl
  rw [this, List.zipIdx_map_fst]
theorem enumS_take {l : List Sq} {k : Nat} {x : Sq} (h : l[k]? = some x) : enumS (l.take (k + 1)) = enumS (l.take k) ++ [((k : Int), x)] := by
  obtain ⟨h1, h2⟩ := List.getElem?_eq_some_iff.1 h
  rw [List.take_succ_eq_append_getElem h1, h2, enumS_snoc, List.length_take, Nat.min_eq_left (Nat.le_of_lt h1)]
theorem enumS_pre (l : List Sq) (k : Nat) : ∃ rest, enumS (l.take k) ++ rest = enumS l := by
  refine ⟨(enumS l).drop (enumS (l.take k)).length, ?_⟩
  have h : enumS (l.take k) = (enumS l).take k := by
    unfold enumS
    rw [← List.map_take]
    congr 1
    induction l generalizing k with
    | nil => simp
    | cons x r ih =>
      apply List.ext_getElem?
      intro i
      simp only [List.getElem?_zipIdx, List.getElem?_take]
      split <;> simp
  rw [h]
  have : ((enumS l).take k).length = min k (enumS l).length := List.length_take
  rw [this]
  rcases Nat.le_total k (enumS l).length with hk | hk
  · rw [Nat.min_eq_left hk, List.take_append_drop]
  · rw [Nat.min_eq_right hk, List.take_of_length_le hk, List.drop_length, List.append_nil]
def encsA (x : Int × Sq) : Array Value := #[.int .i64 x.1, sqv x.2]
end Go.Port
namespace Go.Proofs.Ytaoiaiddamnbiaa
open Go.RowKit Go.Port

attribute [local go_sem] Oper.semAt_some

theorem sall_any (a : Option Addr) (n c : Nat) (w : World) :
    Calls Try.prog 39 #[.slice a n c] w fun e w' => e = .returned (.func (.func 43) #[] #[.pointer (some ⟨w.heap.size, 0, none⟩)]) ∧ w.alloc (.cells #[.slice a n c] 32) = w' := by
  go_enter Try.func39, Try.ntmps39
  go_wp2
  go_ret
  exact ⟨rfl, rfl⟩

set_option maxRecDepth 100000 in
set_option maxHeartbeats 2000000 in
theorem sall_seq (X : Nat → Prop) (T : TypeId → Bool) (p : Nat) (a : Option Addr) (c : Nat) (l : List Sq) (w0 : World) (hl : l.length ≤ 100000) (hp : X p) (hb : w0.cell? ⟨p, 0, none⟩ = some (.slice a l.length c))
    (hc : ∀ j u, (l.flatMap sqc)[j]? = some u → ∃ b off, a = some ⟨b, off, none⟩ ∧ X b ∧ w0.cell? ⟨b, off + j, none⟩ = some u) :
    SeqSt Try.prog 43 #[.pointer (some ⟨p, 0, none⟩)] encsA (fun xs => xs = enumS l) (fun xs => ∃ rest, xs ++ rest = enumS l) X T w0 := by
  intro lp J Jx W hW hJ hJx hY hJ0
  have hT0 : TrX X w0 W := TrX.low hW
  have hpW := hT0 _ _ (show X (⟨p, 0, none⟩ : Addr).block from hp) hb
  have HC := hid (fun (W' : World) (hT : TrX X w0 W') j u hu => (show ∃ b off, a = some ⟨b, off, none⟩ ∧ b < W'.heap.size ∧ W'.cell? ⟨b, off + j, none⟩ = some u from by
    obtain ⟨b, off, e, hb, hc⟩ := hc j u hu
    have := hT ⟨b, off + j, none⟩ u hb hc
    exact ⟨b, off, e, World.block_lt_of_cell? W' _ this, this⟩))
  have HY := hid hY
  have HJ := hid hJ
  have hT := hT0
  clear hc hY hT0 hb hJx hJ
  refine callsIn_of_wp Try.func43 rfl trivial ?_ rfl
  simp only [Try.ntmps43, List.size_toArray, List.length_cons, List.length_nil, Nat.reduceAdd, Nat.reduceSub, Array.replicate_succ, Array.replicate_zero, List.push_toArray, List.append_toArray, List.nil_append, List.cons_append]
  gi_wp2
  gi_loopw [7] (fun i wr => ∃ (k : Nat), k ≤ l.length ∧ i = .int .i64 k ∧ J (enumS (l.take k)) wr ∧ TrX X w0 wr) (fun i _ => l.length - (intOf i).toNat)
  case atStart => exact ⟨0, Nat.zero_le _, rfl, hJ0, hT⟩
  case round =>
    obtain ⟨k, hk, rfl, hJk, hTr⟩ := hrel
    by_cases hlt : k < l.length
    · obtain ⟨x, hx⟩ : ∃ x, l[k]? = some x := ⟨l[k], by simp [hlt]⟩
      obtain ⟨bl, off, rfl, hb0, c0⟩ := HC.out wr hTr (k * 3 + 0) (.int .i64 x.lit) (by rw [sqc_get hx 0 (by omega)]; rfl)
      obtain ⟨bl1, off1, e1, _, c1⟩ := HC.out wr hTr (k * 3 + 1) (.int .i64 x.len) (by rw [sqc_get hx 1 (by omega)]; rfl)
      cases e1
      obtain ⟨bl2, off2, e2, _, c2⟩ := HC.out wr hTr (k * 3 + 2) (.int .i64 x.off) (by rw [sqc_get hx 2 (by omega)]; rfl)
      cases e2
      rw [Nat.add_zero] at c0
      rw [← Nat.add_assoc] at c1 c2
      have HST := hid (enumS_take hx)
      have HPre := hid (enumS_pre l (k + 1))
      have HT := hid (hTr.trans (TrX.low (below_new wr (.cells #[.int .i64 x.lit, .int .i64 x.len, .int .i64 x.off] 28))))
      have HJk := hid (StaysC.low HJ.out hJk (below_new wr (.cells #[.int .i64 x.lit, .int .i64 x.len, .int .i64 x.off] 28)))
      have HK := hid hlt
      clear hx hTr hJk hk hlt
      have tk : (k : Int) < (l.length : Int) := by have := HK.out; omega
      obtain ⟨fn, tmps, assign, body, hy, hRy⟩ := HY.out (enumS (l.take k)) ((k : Int), x) _ HJk.out (by rw [← HST.out]; exact HPre.out)
      have hy2 : (Instr.yield lp #[.int .i64 (k : Int), .agg #[.int .i64 x.lit, .int .i64 x.len, .int .i64 x.off]]).run Try.prog (wr.alloc (.cells #[.int .i64 x.lit, .int .i64 x.len, .int .i64 x.off] 28)) = .ok (.round lp fn tmps assign body) (wr.alloc (.cells #[.int .i64 x.lit, .int .i64 x.len, .int .i64 x.off] 28)) := hy
      have HRy := hid hRy
      clear hy hRy
      gi_wp2
      refine ⟨rfl, HRy.out.mono ?_⟩
      rintro e w2 ⟨hkp, (⟨rfl, hJ2⟩ | ⟨rfl, hJx2⟩)⟩
      · gi_wp2
        go_roundw
        case rel =>
          refine ⟨k + 1, HK.out, by go_num, ?_, HT.out.trans (TrX.of_keeps hkp)⟩
          rw [HST.out]
          exact hJ2
        case measure =>
          have := HK.out
          simp [intOf]; omega
      · have HE := hid (show ∃ rest, (enumS (l.take k) ++ [((k : Int), x)]) ++ rest = enumS l from by rw [← HST.out]; exact HPre.out)
        gi_wp2
        refine bodyPost_ret (results_none rfl _ _ _) rfl ?_
        exact ⟨⟨_, rfl⟩, .inr ⟨_, HE.out, hJx2⟩⟩
    · obtain rfl : k = l.length := by omega
      rw [List.take_of_length_le (Nat.le_refl _)] at hJk
      gi_wp2
      refine bodyPost_end (results_none rfl _ _ _) rfl ?_
      exact ⟨⟨_, rfl⟩, .inl ⟨_, rfl, hJk⟩⟩

theorem all_any (a a2 : Option Addr) (c c2 : Nat) (b : List UInt8) (pos most : Int) (frm : List Int) (w : World) (hb : b.length ≤ 1000000) (hbc : b.length ≤ c) (hf : frm.length ≤ 100000)
    (hc : ∀ j u, (b.map bv)[j]? = some u → ∃ bl off, a = some ⟨bl, off, none⟩ ∧ bl < w.heap.size ∧ w.cell? ⟨bl, off + j, none⟩ = some u)
    (hc2 : ∀ j u, (frm.map iv)[j]? = some u → ∃ bl off, a2 = some ⟨bl, off, none⟩ ∧ bl < w.heap.size ∧ w.cell? ⟨bl, off + j, none⟩ = some u) :
    Calls Try.prog 26 #[.slice a b.length c, .int .i64 pos, .int .i64 most, .slice a2 frm.length c2] w fun e w' => ∃ g v, e = .returned (.func (.func 38) #[] #[.pointer (some ⟨g, 0, none⟩)]) ∧ w.heap.size ≤ g ∧ Blk w' g [v] 32 ∧ w'.ownsRow (w.heap.size + 1) 28 3 v (matchesS b pos most frm).length ((matchesS b pos most frm).flatMap sqc) ∧ Below w.heap.size w w' := by
  have HM := hid (matches_any a a2 c c2 b pos most frm w hb hbc hf hc hc2)
  clear hc hc2
  go_enter Try.func26, Try.ntmps26
  go_wp2_with fail
  refine HM.out.mono ?_
  rintro e w1 ⟨v, rfl, hown, hb1⟩
  obtain ⟨av, cv, rfl⟩ := own_slice hown
  have HO := hid (hown.alloc (.cells #[.slice av (matchesS b pos most frm).length cv] 32))
  have hsz1 : w.heap.size ≤ w1.heap.size := hb1.size
  have HB := hid (hb1.alloc hb1.size (.cells #[.slice av (matchesS b pos most frm).length cv] 32))
  clear hown hb1
  go_wp2
  go_ret
  exact ⟨_, _, rfl, hsz1, Blk.new w1 [.slice av (matchesS b pos most frm).length cv] _, HO.out, HB.out⟩

def encsG (x : Sq) : Array Value := #[.int .i64 x.off, .int .i64 x.len]

set_option maxRecDepth 100000 in
set_option maxHeartbeats 4000000 in
theorem all1_seq (X : Nat → Prop) (T : TypeId → Bool) (p : Nat) (a : Option Addr) (c : Nat) (l : List Sq) (w0 : World) (hl : l.length ≤ 100000) (hp : X p) (hT : T 32 = false) (hT2 : T 58 = false) (hb : w0.cell? ⟨p, 0, none⟩ = some (.slice a l.length c))
    (hc : ∀ j u, (l.flatMap sqc)[j]? = some u → ∃ b off, a = some ⟨b, off, none⟩ ∧ X b ∧ w0.cell? ⟨b, off + j, none⟩ = some u) :
    SeqSt Try.prog 38 #[.pointer (some ⟨p, 0, none⟩)] encsG (fun xs => xs = l) (fun xs => ∃ rest, xs ++ rest = l) X T w0 := by
  intro lp J Jx W hW hJ hJx hY hJ0
  have hT0 : TrX X w0 W := TrX.low hW
  have hpW := hT0 _ _ (show X (⟨p, 0, none⟩ : Addr).block from hp) hb
  have HC := hid (fun (W' : World) (hT : TrX X w0 W') j u hu => (show ∃ b off, a = some ⟨b, off, none⟩ ∧ X b ∧ W'.cell? ⟨b, off + j, none⟩ = some u from by
    obtain ⟨b, off, e, hb, hc⟩ := hc j u hu
    exact ⟨b, off, e, hb, hT ⟨b, off + j, none⟩ u hb hc⟩))
  have HY := hid hY
  have HJ := hid hJ
  have HJx := hid hJx
  have HJ0 := hid hJ0
  have HT0 := hid hT0
  clear hc hY hT0 hb hJx hJ hJ0
  have hpl : p < W.heap.size := World.block_lt_of_cell? W _ hpW
  refine callsIn_wide.2 ((callsIn_wide (n := 1)).1 ?_)
  refine callsIn_of_wp_marks Try.func38 rfl trivial ?_ rfl
  simp only [Try.ntmps38, List.size_toArray, List.length_cons, List.length_nil, Nat.reduceAdd, Nat.reduceSub, Array.replicate_succ, Array.replicate_zero, List.push_toArray, List.append_toArray, List.nil_append, List.cons_append]
  gi_wp2
  refine wpIn_wide.2 (wp_scope_straight ((wpIn_wide (n := 0)).1 ?_))
  have HS1 := hid (fun W => callsIn_wide (n := 0) |>.2 (sall_any a l.length c W))
  gi_wp2
  refine wpIn_label ?_
  gi_wp2_with (refine ⟨trivial, rfl, ?_⟩; refine (HS1.out _).mono ?_; rintro e w' ⟨rfl, rfl⟩)
  have hpw2 := hid (Blk.new (W.alloc (.cells #[.func (.yield lp) #[] #[]] 58)) [.slice a l.length c] 32)
  have hyb : Blk ((W.alloc (.cells #[.func (.yield lp) #[] #[]] 58)).alloc (.cells #[.slice a l.length c] 32)) W.heap.size [.func (.yield lp) #[] #[]] 58 := (Blk.new W _ _).alloc _
  have hbW : Below W.heap.size W ((W.alloc (.cells #[.func (.yield lp) #[] #[]] 58)).alloc (.cells #[.slice a l.length c] 32)) := (below_new W _).alloc (by simp) _
  have hsz : ((W.alloc (.cells #[.func (.yield lp) #[] #[]] 58)).alloc (.cells #[.slice a l.length c] 32)).heap.size = W.heap.size + 2 := by simp
  have hsz1 : (W.alloc (.cells #[.func (.yield lp) #[] #[]] 58)).heap.size = W.heap.size + 1 := by simp
  rw [hsz1] at hpw2
  have hJ2 := HJ.out.low HJ0.out hbW
  generalize ((W.alloc (.cells #[.func (.yield lp) #[] #[]] 58)).alloc (.cells #[.slice a l.length c] 32)) = w2 at *
  have hle : W.heap.size ≤ w2.heap.size := by omega
  refine wpIn_wide.2 ((wpIn_wide (n := 1)).1 ?_)
  apply wpIn_rangeSt (gf := 43) (lb := #[.pointer (some ⟨W.heap.size + 1, 0, none⟩)]) rfl (enters_of Try.func43 (by kernel_rfl) rfl) (encs := encsA)
    (sall_seq (fun k => X k ∨ k = W.heap.size + 1) T (W.heap.size + 1) a c l w2 hl (.inr rfl) (hpw2.out.cell (k := 0) rfl) (fun j u hu => by
      obtain ⟨b, off, e, hb, hc⟩ := HC.out w2 (HT0.out.trans (TrX.low hbW)) j u hu
      exact ⟨b, off, e, .inl hb, hc⟩)) (fun _ => rfl)
    (fun xs Wr => J (xs.map (Prod.snd : Int × Sq → Sq)) Wr ∧ Blk Wr W.heap.size [.func (.yield lp) #[] #[]] 58 ∧ Blk Wr (W.heap.size + 1) [.slice a l.length c] 32)
    (fun cd xs Wr => cd = .exit 0 ∧ Jx (xs.map (Prod.snd : Int × Sq → Sq)) Wr)
    (((HJ.out.mono hle).map (List.map (Prod.snd : Int × Sq → Sq))).and ((stays_cells _ _ _ _).and (stays_cells _ _ _ _)))
    (fun cd => (StaysC.pure _ (fun _ => cd = .exit 0)).and ((HJx.out.mono hle).map (List.map (Prod.snd : Int × Sq → Sq)))) ⟨hJ2, hyb, hpw2.out⟩
    (fun x a' Wr => ∃ q, a' = { tmps := #[.func (.yield lp) #[] #[], .pointer (some ⟨p, 0, none⟩), .pointer (some ⟨W.heap.size, 0, none⟩), undef, .pointer (some ⟨q, 0, none⟩), .slice a l.length c, .func (.func 43) #[] #[.pointer (some ⟨W.heap.size + 1, 0, none⟩)], .int .i64 x.1, sqv x.2, undef, undef, undef, undef, undef, undef, undef], defers := [] } ∧ Blk Wr q (sqc x.2) 28)
    (fun x a' => fun s W1 W2 row h hg hr => by
      obtain ⟨q, e, hb⟩ := h
      exact ⟨q, e, stays_cells (β := Unit) _ _ _ _ () W1 W2 row hb hg hr⟩)
  case hassign =>
    rintro l' pre ⟨i, x⟩ Wr K ⟨h1, h2, h3⟩ hSp hK
    unfold encsA sqv
    have HI := hid (And.intro (StaysC.low HJ.out h1 (below_new Wr (.cells (sqc x).toArray 28))) (And.intro (h2.alloc (.cells (sqc x).toArray 28)) (h3.alloc (.cells (sqc x).toArray 28))))
    have HK := hid (fun a' => hK a' (Wr.alloc (.cells (sqc x).toArray 28)) (KeepsT.low (below_new Wr _)) HI.out)
    clear hK h1 h2 h3
    gi_wp2
    exact HK.out _ ⟨_, rfl, Blk.new Wr (sqc x) _⟩
  case hbody =>
    rintro l' pre ⟨i, x⟩ a' Wr ⟨h1, h2, h3⟩ ⟨q, rfl, hq⟩ hSp
    have hsp : ∃ rest, (pre.map (Prod.snd : Int × Sq → Sq) ++ [x]) ++ rest = l := by
      obtain ⟨rest, hr⟩ := hSp
      refine ⟨rest.map Prod.snd, ?_⟩
      rw [← enumS_snd l, ← hr]
      simp
    obtain ⟨fn, tmps, assign, body, hy, hRy⟩ := HY.out (pre.map Prod.snd) x Wr h1 hsp
    have hy2 : (Instr.yield lp #[.int .i64 x.off, .int .i64 x.len]).run Try.prog Wr = .ok (.round lp fn tmps assign body) Wr := hy
    have HRy := hid hRy
    have d0 := h2.cell (k := 0) rfl
    have q1 := hq.cell (k := 1) rfl
    have q2 := hq.cell (k := 2) rfl
    have H2 := hid h2
    have H3 := hid h3
    clear hy hRy h1 h2 h3 hq hSp hsp
    gi_wp2
    refine ⟨rfl, HRy.out.mono ?_⟩
    rintro e w3 ⟨hkp, (⟨rfl, hJ3⟩ | ⟨rfl, hJx3⟩)⟩
    · have HF := hid (And.intro (hkp.also H3.out (by omega) hT hle) (And.intro hJ3 (And.intro (hkp.blk H2.out (.inr ⟨Nat.le_refl _, hT2⟩)) (hkp.blk H3.out (.inr ⟨by omega, hT⟩)))))
      clear hkp hJ3
      gi_wp2
      refine ⟨HF.out.1, ?_, HF.out.2.2⟩
      rw [List.map_append]
      exact HF.out.2.1
    · have HF := hid (And.intro (hkp.also H3.out (by omega) hT hle) hJx3)
      clear hkp hJx3
      gi_wp2
      refine ⟨HF.out.1, rfl, ?_⟩
      rw [List.map_append]
      exact HF.out.2
  case hdone =>
    rintro D xs Wr hD rfl ⟨h1, h2, h3⟩ hk
    rw [enumS_snd] at h1
    gi_wp2
    simp only [Exit.noGoto_normal]
    refine ⟨by simp, .inl ⟨_, _, rfl, run_takeDeferred hk, ?_⟩⟩
    refine ⟨_, results_none rfl _ _ _, ⟨_, rfl⟩, .inl ⟨l, rfl, HJ.out.put _ h1 (by omega) hk rfl⟩⟩
  case hstop =>
    rintro D cd xs Wr hD ⟨rest, hrest⟩ ⟨rfl, h1⟩ hk
    have hsp : ∃ rest, xs.map (Prod.snd : Int × Sq → Sq) ++ rest = l := ⟨rest.map Prod.snd, by rw [← enumS_snd l, ← hrest]; simp⟩
    have HSp := hid hsp
    clear hsp
    gi_wp2
    simp only [Exit.noGoto_normal]
    refine ⟨by simp, .inl ⟨_, _, rfl, run_takeDeferred hk, ?_⟩⟩
    refine ⟨_, results_none rfl _ _ _, ⟨_, rfl⟩, .inr ⟨_, HSp.out, HJx.out.put _ h1 (by omega) hk rfl⟩⟩
end Go.Proofs.Ytaoiaiddamnbiaa
