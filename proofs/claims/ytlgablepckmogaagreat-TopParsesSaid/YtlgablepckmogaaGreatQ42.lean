/-
  The walks of layer 6 (ring): Copy.
  The walks of layer 6 (ring): New, Last.
-/
import Derived.Test.YtlgablepckmogaaGreatQ41
import Derived.ScopeJumps
import Derived.Deep.RegionHeld
namespace Go.Port
open Go.RowKit
theorem RgAt.far {tr te : TypeId} {base rb : Nat} {row : Option Nat} {size : Nat} {st : List UInt8} {w : World} (h : RgAt tr te base rb row size st w) {b : Nat} (hb : w.heap.size ≤ b) : b ≠ rb ∧ some b ≠ row := by
  obtain ⟨al, cl, last, tot, h1, _⟩ := h.ex
  have h2 := h1.lt
  exact ⟨by omega, fun e => by have := (h.row0 b e.symm).2.1; omega⟩
theorem RgAt.setCell {tr te : TypeId} {base rb : Nat} {row : Option Nat} {size : Nat} {st : List UInt8} {w : World} (h : RgAt tr te base rb row size st w) (a : Addr) (u : Value) (h1 : a.block ≠ rb) (h2 : some a.block ≠ row) : RgAt tr te base rb row size st (w.setCell a u) :=
  h.kept fun k hk => Below.heap_setCell w a u k (fun e => by
    rcases hk with rfl | hk
    · exact h1 e.symm
    · rw [e] at hk; exact h2 hk.symm)
theorem Turned.set {rb : Nat} {row r : Option Nat} {w w1 : World} (h : Turned rb row r w w1) (a : Addr) (u : Value) (hb : w.heap.size ≤ a.block) : Turned rb row r w (w1.setCell a u) :=
  ⟨h.os, h.tape, h.output, Nat.le_trans h.size (by simp), fun k hk h1 h2 => (Below.heap_setCell w1 a u k (fun e => by omega)).trans (h.block k hk h1 h2), h.next⟩
theorem Turned.low {rb : Nat} {row r : Option Nat} {w w1 w2 : World} (h : Turned rb row r w w1) (hb : Below w1.heap.size w1 w2) : Turned rb row r w w2 := h.trans (Turned.of_below hb)
end Go.Port
namespace Go.Proofs.YtlgablepckmogaaGreat
open Go.RowKit Go.Port
attribute [local go_sem] Oper.semAt_some
set_option maxRecDepth 100000 in
set_option maxHeartbeats 4000000 in
theorem rgcopy_any (base rb : Nat) (row : Option Nat) (size d n : Nat) (st : List UInt8) (w : World) (h : RgAt 66 5 base rb row size st w) (hd : 1 ≤ d) (hds : d ≤ size) (hdl : d ≤ st.length) (hn : n ≤ 131072) (hln : st.length + n ≤ 1000000) :
    Calls Tryz.prog 95 #[.pointer (some ⟨rb, 0, none⟩), .int .i64 (d : Int), .int .i64 (n : Int)] w fun e w' => ∃ v row', e = .returned (.tuple #[v, .int .i64 0]) ∧ w'.ownsRow w.heap.size 5 1 v n ((copyS st d n).map bv) ∧ RgAt 66 5 base rb row' size (st ++ copyS st d n) w' ∧ Turned rb row row' w w' ∧ ∀ k, v.ownBlock = some k → some k ≠ row' := by
  obtain ⟨w2, hw2⟩ : ∃ w2, w2 = (w.alloc (.cells #[.int .i64 (d : Int)] 3)).alloc (.cells #[.slice none 0 0] 22) := ⟨_, rfl⟩
  have hs1 : (w.alloc (.cells #[.int .i64 (d : Int)] 3)).heap.size = w.heap.size + 1 := by simp
  have hs2 : w2.heap.size = w.heap.size + 2 := by rw [hw2]; simp
  have hb2 : Below w.heap.size w w2 := by rw [hw2]; exact (below_new w _).alloc (by simp) _
  have hO2 : Blk w2 w.heap.size [.int .i64 (d : Int)] 3 := by rw [hw2]; exact (Blk.new w [.int .i64 (d : Int)] 3).alloc _
  have hF2 : Blk w2 (w.heap.size + 1) [.slice none 0 0] 22 := by
    have := Blk.new (w.alloc (.cells #[.int .i64 (d : Int)] 3)) [.slice none 0 0] 22
    rw [hw2]
    rwa [hs1] at this
  have hR2 := h.below hb2
  obtain ⟨al, cl, last, tot, h1, h2, h3, h4⟩ := hR2.ex
  have hmn := h4.mn
  have hle := h4.le
  have hsz1 := h.s1
  have hsz2 := h.s2
  have hdlast : d ≤ last.length := by omega
  have hll : last.length ≤ 1000000 := by have := h.len; omega
  obtain ⟨g, rfl, hcl, hcs⟩ := own_at h2 (by omega)
  have htl := h4.tail hdlast
  have HNo := hid (fun W (hb : Blk W rb [.slice (some ⟨g, 0, none⟩) last.length cl, .int .i64 (size : Int), .int .i64 tot] 66) => rgnone_any rb size _ tot W hb hsz1)
  have HLe := hid (fun W (hb : Blk W rb [.slice (some ⟨g, 0, none⟩) last.length cl, .int .i64 (size : Int), .int .i64 tot] 66) => rglen_any rb size last.length cl _ tot W hb hsz1)
  have HEn := hid (fun W (hb : Blk W rb [.slice (some ⟨g, 0, none⟩) last.length cl, .int .i64 (size : Int), .int .i64 tot] 66) => rgend_any rb g last.length size cl d tot W hb hd hdlast (by omega) hcl)
  have hmin : d ≤ min size last.length := by omega
  have HB := hid h1
  have HB2 := hid hb2
  have HO := hid hO2
  have HF := hid hF2
  have HR := hid hR2
  have HW := hid hw2
  have HS := hid hs2
  have HT := hid htl
  have HLl := hid hll
  have HCs := hid hcs
  have HFar := hid (fun b (hb : w.heap.size ≤ b) => h.far hb)
  have HRow := hid h3
  have HNn := hid (And.intro hd (And.intro hn (And.intro hln (And.intro hdl (And.intro hdlast hsz2)))))
  have hn0 : ¬ (n : Int) < 0 := by omega
  have hn1 : ¬ 131072 < (n : Int) := by omega
  have hd0 : decide ((d : Int) < 1) = false := decide_eq_false (by omega)
  have hd1 : decide (((min size last.length : Nat) : Int) < (d : Int)) = false := decide_eq_false (by omega)
  clear h hd hds hdl hn hln hs1 hs2 hb2 hO2 hF2 hR2 h1 h2 h3 h4 hmn hle hsz1 hsz2 hll hcl hcs htl hw2 hdlast
  generalize hmn : min size last.length = mn at *
  go_enter Tryz.func95, Tryz.ntmps95
  go_wp2_with fail
  refine wp_scope_straight ?_
  go_wp2_with fail
  rw [← HW.out]
  go_at_call 29
  refine (HNo.out _ HB.out).mono ?_
  rintro e w' ⟨rfl, rfl⟩
  clear HNo
  dsimp only
  go_wp2_with fail
  have co := HO.out.cell (k := 0) rfl
  go_quiet ((go_at_call 32; first | exact quiet_left3 (HLe.out _ HB.out) | exact quiet_left0 (HLe.out _ HB.out)))
  have hbq : Below w2.heap.size w2 (w2.drewN nq) := below_drewN (Below.refl _ _) nq
  have HB3 := hid (HB.out.below hbq HB.out.lt)
  have HO3 := hid (HO.out.below hbq HO.out.lt)
  have HF3 := hid (HF.out.below hbq HF.out.lt)
  have HR3 := hid (HR.out.below hbq)
  have HC3 := hid (HCs.out.low hbq)
  have HB23 := hid (HB2.out.trans (hbq.mono HB2.out.size))
  have HS3 : Hid ((w2.drewN nq).heap.size = w.heap.size + 2) := HS
  clear hbq HB HO HF HR HCs HB2 HS HLe co HW
  generalize w2.drewN nq = w3 at *
  go_wp2_with fail
  have co3 := HO3.out.cell (k := 0) rfl
  refine wp_region_noPanic ?_
  refine wp_region_held_drew (S := fun W => W.cell? ⟨w.heap.size, 0, none⟩ = some (.int .i64 (d : Int))) (by kernel_rfl) co3 (fun hHeld => ?_)
  refine wpAnyH_take (i := 0) (v := .pointer (some ⟨rb, 0, none⟩)) (by simp only [List.getElem?_toArray, List.getElem?_cons_zero]; rfl) (by kernel_rfl) (by kernel_rfl) (by kernel_rfl) (fun _ _ _ h => h) (Or.inl ⟨by rfl, fun W hSw => ?_⟩) (by assumption) ?_
  · clear hSw
    go_simp
  simp only [Act.put, List.setIfInBounds_toArray, List.set_cons_zero, List.set_cons_succ]
  refine wpAnyH_take (i := 1) (v := .pointer (some ⟨rb, 0, none⟩)) (by simp only [List.getElem?_toArray, List.getElem?_cons_zero, List.getElem?_cons_succ]; rfl) (by kernel_rfl) (by kernel_rfl) (by kernel_rfl) (fun _ _ _ h => h) (Or.inl ⟨by rfl, fun W hSw => ?_⟩) (by assumption) ?_
  · clear hSw
    go_simp
  simp only [Act.put, List.setIfInBounds_toArray, List.set_cons_zero, List.set_cons_succ]
  refine wpAnyH_take (i := 2) (v := .pointer (some ⟨rb, 0, none⟩)) (by simp only [List.getElem?_toArray, List.getElem?_cons_zero, List.getElem?_cons_succ]; rfl) (by kernel_rfl) (by kernel_rfl) (by kernel_rfl) (fun _ _ _ h => h) (Or.inl ⟨by rfl, fun W hSw => ?_⟩) (by assumption) ?_
  · clear hSw
    go_simp
  simp only [Act.put, List.setIfInBounds_toArray, List.set_cons_zero, List.set_cons_succ]
  refine wpAnyH_take (i := 3) (v := .int .i64 (d : Int)) (by simp only [List.getElem?_toArray, List.getElem?_cons_zero, List.getElem?_cons_succ]; rfl) (by kernel_rfl) (by kernel_rfl) (by kernel_rfl) (fun _ _ _ h => h) (Or.inl ⟨by rfl, fun W hSw => ?_⟩) (by assumption) ?_
  · have hcw : W.cell? ⟨w.heap.size, 0, none⟩ = some (.int .i64 (d : Int)) := hSw
    go_simp
  simp only [Act.put, List.setIfInBounds_toArray, List.set_cons_zero, List.set_cons_succ]
  refine wpAnyH_ready (rs := [4]) (by kernel_rfl) (by simp) ?_
  refine AllReadyH.cons (by simp only [List.getElem?_toArray, List.getElem?_cons_zero, List.getElem?_cons_succ]; rfl) (fun K hK => ?_) AllReadyH.nil
  rw [if_pos (by rfl)]
  go_simp
  go_at_call 31
  refine (HEn.out _ HB3.out.drew).mono ?_
  rintro e w4 ⟨rfl, m, rfl⟩
  have hb4 : Below w3.heap.size w3 (w3.drew.drewN m) := below_drewN ((Below.refl _ _).drew) m
  have HB4 := hid (HB3.out.below hb4 HB3.out.lt)
  have HO4 := hid (HO3.out.below hb4 HO3.out.lt)
  have HF4 := hid (HF3.out.below hb4 HF3.out.lt)
  have HR4 := hid (HR3.out.below hb4)
  have HC4 := hid (HC3.out.low hb4)
  have HB24 := hid (HB23.out.trans (hb4.mono HB23.out.size))
  have HS4 : Hid ((w3.drew.drewN m).heap.size = w.heap.size + 2) := HS3
  have co4 := HO4.out.cell (k := 0) rfl
  dsimp only
  refine hK.out _ _ co4 (fun _ => ?_)
  clear hK K co3 hb4 HB3 HO3 HF3 HR3 HC3 HB23 HS3 HEn
  generalize (w3.drew).drewN m = w4 at *
  refine wpAnyH_ready (rs := [5]) (by kernel_rfl) (by simp) ?_
  refine AllReadyH.cons (by simp only [List.getElem?_toArray, List.getElem?_cons_zero, List.getElem?_cons_succ]; rfl) (fun K hK => ?_) AllReadyH.nil
  have y0 := HF4.out.cell (k := 0) rfl
  have z0 := HF4.out.frozen 0
  rw [if_pos (by rfl)]
  go_simp
  refine hK.out _ _ ((HO4.out.other (a := ⟨w.heap.size + 1, 0, none⟩) _ (by simp)).cell (k := 0) rfl) (fun _ => ?_)
  clear hK K y0 z0 co4
  refine wpAnyH_done (by kernel_rfl) ?_ _
  refine NoPanic.normal ?_
  have hf1 := HFar.out (w.heap.size + 1) (by omega)
  have hR5 := HR4.out.setCell ⟨w.heap.size + 1, 0, none⟩ (.slice (some ⟨g, last.length - d, none⟩) d d) hf1.1 hf1.2
  have hF5 := HF4.out.set 0 (.slice (some ⟨g, last.length - d, none⟩) d d)
  have hO5 := HO4.out.other (a := ⟨w.heap.size + 1, 0, none⟩) (.slice (some ⟨g, last.length - d, none⟩) d d) (by simp)
  have hB5 := HB24.out.setCell (p := ⟨w.heap.size + 1, 0, none⟩) (Nat.le_succ _) (.slice (some ⟨g, last.length - d, none⟩) d d)
  obtain ⟨q1, q2, q3, q4, q5, q6⟩ := HNn.out
  have hfl : (st.drop (st.length - d)).length = d := by rw [List.length_drop]; omega
  have hC5 : CellsAt (w4.setCell ⟨w.heap.size + 1, 0, none⟩ (.slice (some ⟨g, last.length - d, none⟩) d d)) (some ⟨g, last.length - d, none⟩) ((st.drop (st.length - d)).map bv) := by
    intro j u hu
    rw [← HT.out, List.map_drop, List.getElem?_drop] at hu
    obtain ⟨b, o, e, k1, k2⟩ := HC4.out _ u hu
    cases e
    rw [Nat.zero_add] at k2
    refine ⟨_, _, rfl, by simpa using k1, ?_⟩
    rw [← k2]
    refine World.cell?_of_block (Below.heap_setCell _ ⟨w.heap.size + 1, 0, none⟩ _ _ (fun e => hf1.2 ?_))
    rw [← HRow.out]
    exact congrArg some e.symm
  have HGa := hid (rggath_any (w.heap.size + 1) w.heap.size d n (some ⟨g, last.length - d, none⟩) (st.drop (st.length - d)) _ hF5 hO5 hC5 hfl q1 (by omega) q2)
  have HR5 := hid hR5
  have HB5 := hid hB5
  clear hf1 hR5 hF5 hO5 hB5 q1 q2 q3 q4 q5 q6 hfl hC5
  generalize w4.setCell ⟨w.heap.size + 1, 0, none⟩ (.slice (some ⟨g, last.length - d, none⟩) d d) = w5 at *
  go_wp2_with (go_at_call 125; refine HGa.out.mono ?_; refine Hid.out ?_)
  refine hid ?_
  rintro e w6 ⟨v, rfl, hown, hb6⟩
  rw [← copyS_gath] at hown
  obtain ⟨av, cv, rfl⟩ := own_slice hown
  have HFv := hid (fun k hk => HR5.out.far (hown.lt k hk).1)
  have HAd := hid (rgadd_any base rb row size st (copyS st d n) av cv w6 (HR5.out.below hb6) (by rw [copyS_length]; exact HNn.out.2.2.1) (by rw [copyS_length]; exact ((Sl.of_owns hown).cap rfl).1) ((Sl.of_owns hown).cap rfl).2 ((Sl.of_owns hown).cells' rfl) (fun x hx => (HFv.out x.block (by rw [hx]; rfl)).1))
  rw [copyS_length] at HAd
  have HO6 := hid hown
  have HB6 := hid (HB5.out.trans (hb6.mono HB5.out.size))
  clear hown hb6 HGa
  dsimp only
  go_wp2_with (go_at_call 96; refine HAd.out.mono ?_; refine Hid.out ?_)
  refine hid ?_
  rintro e w7 ⟨rfl, row7, hR7, hT7⟩
  have HR7 := hid hR7
  have HT7 := hid hT7
  clear hR7 hT7 HAd
  dsimp only
  go_wp2
  simp only [Exit.noGoto_ret]
  go_ret2
  refine ⟨_, row7, rfl, own_le (HT7.out.own HO6.out (fun k hk => HFv.out k hk)) HB5.out.size, HR7.out, (Turned.of_below HB6.out).trans HT7.out, fun k hk => HT7.out.far (HO6.out.lt k hk).2 (HFv.out k hk).2⟩
end Go.Proofs.YtlgablepckmogaaGreat
namespace Go.Port
open Go.RowKit
theorem RingIn.minlen {size : Nat} {st last : List UInt8} (h : RingIn size st last) : min size last.length = min size st.length := by
  have := h.le
  have := h.mn
  omega
end Go.Port
namespace Go.Proofs.YtlgablepckmogaaGreat
open Go.RowKit Go.Port
attribute [local go_sem] Oper.semAt_some
theorem rgbounds_any (w : World) :
    Calls Tryz.prog 24 #[] w (RetV w (.agg #[.int .i64 1, .int .i64 134217728])) := by
  go_enter Tryz.func24, Tryz.ntmps24
  go_wp2
  refine bodyPost_ret (v := .agg #[.int .i64 1, .int .i64 134217728]) (by simp [results, Tryz.results24, go_sem]) rfl ⟨rfl, ?_⟩
  exact below_new w _
set_option maxRecDepth 100000 in
set_option maxHeartbeats 2000000 in
theorem rgnew_ok (size c : Nat) (ad : Option Addr) (bs : List UInt8) (w : World) (h1 : 1 ≤ size) (h2 : size ≤ 134217728) (hl : bs.length ≤ 1000000) (hbc : bs.length ≤ c) (hac : ad = none → c = 0) (hc : CellsAt w ad (bs.map bv)) :
    Calls Tryz.prog 9 #[.int .i64 (size : Int), .slice ad bs.length c] w fun e w' => ∃ rb row, e = .returned (.tuple #[.pointer (some ⟨rb, 0, none⟩), .int .i64 0]) ∧ RgAt 66 5 w.heap.size rb row size bs w' ∧ Below w.heap.size w w' := by
  have HBo := hid (rgbounds_any w)
  have HC := hid hc
  have HN := hid (And.intro hl (And.intro h1 h2))
  have n1 : ¬ (size : Int) < 1 := by omega
  have n2 : ¬ 134217728 < (size : Int) := by omega
  clear hc hl h1 h2
  go_enter Tryz.func9, Tryz.ntmps9
  go_wp2_with (go_at_call 24; refine HBo.out.mono ?_; refine Hid.out ?_)
  refine hid ?_
  rintro e w1 ⟨rfl, hb1⟩
  have hb2 := hb1.trans ((below_new w1 (.cells #[.int .i64 1, .int .i64 134217728] 48)).mono hb1.size)
  have hx := Blk.new w1 [.int .i64 1, .int .i64 134217728] 48
  have x0 := hx.cell (k := 0) rfl
  have x1 := hx.cell (k := 1) rfl
  have HB2 := hid hb2
  clear hb1 hb2 hx HBo
  dsimp only
  go_wp2_with (go_at_call 25; refine Hid.out ?_)
  refine hid ?_
  have hs2 : (w1.alloc (.cells #[.int .i64 1, .int .i64 134217728] 48)).heap.size = w1.heap.size + 1 := by simp
  clear x0 x1
  generalize w1.alloc (.cells #[.int .i64 1, .int .i64 134217728] 48) = w2 at *
  have hblk := Blk.new w2 [.slice none 0 0, .int .i64 (size : Int), .int .i64 0] 66
  have hb3 := HB2.out.alloc HB2.out.size (.cells #[.slice none 0 0, .int .i64 (size : Int), .int .i64 0] 66)
  rw [hs2] at hblk
  have hrg : RgAt 66 5 w.heap.size (w1.heap.size + 1) none size [] (w2.alloc (.cells #[.slice none 0 0, .int .i64 (size : Int), .int .i64 0] 66)) :=
    ⟨⟨none, 0, [], 0, hblk, World.ownsRow_nil _ _ _ _, rfl, RingIn.nil _⟩, by have := HB2.out.size; omega, HN.out.2.1, HN.out.2.2, by simp, by decide⟩
  have HP := hid (rgput_any w.heap.size (w1.heap.size + 1) none size [] bs ad c _ hrg (by have := HN.out.1; simpa using this) hbc hac (HC.out.low hb3))
  have HB3 := hid hb3
  have HRb := hid (show w.heap.size ≤ w1.heap.size + 1 by have := HB2.out.size; omega)
  clear hblk hb3 hrg
  refine HP.out.mono ?_
  rintro e w4 ⟨rfl, row, hR4, hT4⟩
  have HR4 := hid hR4
  have HB4 := hid (HB3.out.trans (hT4.below HB3.out.size HRb.out (fun r e => by cases e)))
  clear hR4 hT4 HP
  rw [List.nil_append] at HR4
  dsimp only
  go_wp2
  go_ret2
  exact ⟨_, row, rfl, HR4.out, HB4.out⟩
set_option maxRecDepth 100000 in
set_option maxHeartbeats 2000000 in
theorem rglast_ok (base rb : Nat) (row : Option Nat) (size n k : Nat) (st : List UInt8) (w : World) (h : RgAt 66 5 base rb row size st w) (hn : 1 ≤ n) (hst : 1 ≤ st.length) (hk : k = min n (min size st.length)) :
    Calls Tryz.prog 11 #[.pointer (some ⟨rb, 0, none⟩), .int .i64 (n : Int)] w fun e w' => ∃ v, e = .returned v ∧ w'.ownsRow w.heap.size 5 1 v k ((st.drop (st.length - k)).map bv) ∧ Below w.heap.size w w' := by
  obtain ⟨al, cl, last, tot, h1, h2, h3, h4⟩ := h.ex
  have hmn := h4.mn
  have hle := h4.le
  have hsz1 := h.s1
  have hlen := h.len
  have hml := h4.minlen
  have hk1 : 1 ≤ k := by omega
  have hkl : k ≤ last.length := by omega
  obtain ⟨g, rfl, hcl, hcs⟩ := own_at h2 (by omega)
  have htl := h4.tail hkl
  have HNo := hid (rgnone_any rb size _ tot w h1 hsz1)
  have HLe := hid (fun W (hb : Below w.heap.size w W) => rglen_any rb size last.length cl _ tot W (h1.below hb h1.lt) hsz1)
  have HEn := hid (fun W (hb : Below w.heap.size w W) => rgend_any rb g last.length size cl k tot W (h1.below hb h1.lt) hk1 hkl (by omega) hcl)
  have hC5 : CellsAt w (some ⟨g, last.length - k, none⟩) ((st.drop (st.length - k)).map bv) := by
    intro j u hu
    rw [← htl, List.map_drop, List.getElem?_drop] at hu
    obtain ⟨b, o, e, k1, k2⟩ := hcs _ u hu
    cases e
    rw [Nat.zero_add] at k2
    exact ⟨_, _, rfl, k1, k2⟩
  have hfl : (st.drop (st.length - k)).length = k := by rw [List.length_drop]; omega
  have HCl := hid (fun W (hb : Below w.heap.size w W) => bclone_any (some ⟨g, last.length - k, none⟩) k (st.drop (st.length - k)) W (by omega) (by omega) (fun e => by cases e) (hC5.low hb))
  rw [hfl] at HCl
  have hn1 : ¬ (n : Int) < 1 := by omega
  have hmin : min (n : Int) ((min size last.length : Nat) : Int) = (k : Int) := by omega
  clear h h1 h2 h3 h4 hmn hle hsz1 hlen hml hk1 hkl hcl hcs htl hC5 hfl hn hst hk
  generalize min size last.length = q at *
  go_enter Tryz.func11, Tryz.ntmps11
  go_wp2_with (go_at_call 29; refine HNo.out.mono ?_; rintro e w' ⟨rfl, rfl⟩)
  have hb0 : Below w.heap.size w w := Below.refl _ _
  refine wp_region_noPanic ?_
  refine wp_region_held_drew (S := fun W => Below w.heap.size w W) (by kernel_rfl) hb0.drew (fun hHeld => ?_)
  refine wpAnyH_take (i := 0) (v := .pointer (some ⟨rb, 0, none⟩)) (by simp only [List.getElem?_toArray, List.getElem?_cons_zero]; rfl) (by kernel_rfl) (by kernel_rfl) (by kernel_rfl) (fun _ _ _ h => h) (Or.inl ⟨by rfl, fun W hSw => ?_⟩) (by assumption) ?_
  · clear hSw
    go_simp
  simp only [Act.put, List.setIfInBounds_toArray, List.set_cons_zero, List.set_cons_succ]
  refine wpAnyH_take (i := 1) (v := .pointer (some ⟨rb, 0, none⟩)) (by simp only [List.getElem?_toArray, List.getElem?_cons_zero, List.getElem?_cons_succ]; rfl) (by kernel_rfl) (by kernel_rfl) (by kernel_rfl) (fun _ _ _ h => h) (Or.inl ⟨by rfl, fun W hSw => ?_⟩) (by assumption) ?_
  · clear hSw
    go_simp
  simp only [Act.put, List.setIfInBounds_toArray, List.set_cons_zero, List.set_cons_succ]
  refine wpAnyH_take (i := 2) (v := .pointer (some ⟨rb, 0, none⟩)) (by simp only [List.getElem?_toArray, List.getElem?_cons_zero, List.getElem?_cons_succ]; rfl) (by kernel_rfl) (by kernel_rfl) (by kernel_rfl) (fun _ _ _ h => h) (Or.inl ⟨by rfl, fun W hSw => ?_⟩) (by assumption) ?_
  · clear hSw
    go_simp
  simp only [Act.put, List.setIfInBounds_toArray, List.set_cons_zero, List.set_cons_succ]
  refine wpAnyH_take (i := 3) (v := .int .i64 (n : Int)) (by simp only [List.getElem?_toArray, List.getElem?_cons_zero, List.getElem?_cons_succ]; rfl) (by kernel_rfl) (by kernel_rfl) (by kernel_rfl) (fun _ _ _ h => h) (Or.inl ⟨by rfl, fun W hSw => ?_⟩) (by assumption) ?_
  · clear hSw
    go_simp
  simp only [Act.put, List.setIfInBounds_toArray, List.set_cons_zero, List.set_cons_succ]
  refine wpAnyH_take (i := 4) (v := .pointer (some ⟨rb, 0, none⟩)) (by simp only [List.getElem?_toArray, List.getElem?_cons_zero, List.getElem?_cons_succ]; rfl) (by kernel_rfl) (by kernel_rfl) (by kernel_rfl) (fun _ _ _ h => h) (Or.inl ⟨by rfl, fun W hSw => ?_⟩) (by assumption) ?_
  · clear hSw
    go_simp
  simp only [Act.put, List.setIfInBounds_toArray, List.set_cons_zero, List.set_cons_succ]
  refine wpAnyH_ready (rs := [5]) (by kernel_rfl) (by simp) ?_
  refine AllReadyH.cons (by simp only [List.getElem?_toArray, List.getElem?_cons_zero, List.getElem?_cons_succ]; rfl) (fun K hK => ?_) AllReadyH.nil
  rw [if_pos (by rfl)]
  go_simp
  go_at_call 32
  refine (HLe.out _ hb0.drew).mono ?_
  rintro e w1 ⟨rfl, m, rfl⟩
  have HB1 := hid (below_drewN hb0.drew m)
  dsimp only
  refine hK.out _ _ HB1.out (fun _ => ?_)
  clear hK K hb0
  generalize (w.drew).drewN m = w1 at *
  refine wpAnyH_ready (rs := [6]) (by kernel_rfl) (by simp) ?_
  refine AllReadyH.cons (by simp only [List.getElem?_toArray, List.getElem?_cons_zero, List.getElem?_cons_succ]; rfl) (fun K hK => ?_) AllReadyH.nil
  rw [if_pos (by rfl)]
  go_simp
  refine hK.out _ _ HB1.out (fun _ => ?_)
  clear hK K
  refine wpAnyH_ready (rs := [7]) (by kernel_rfl) (by simp) ?_
  refine AllReadyH.cons (by simp only [List.getElem?_toArray, List.getElem?_cons_zero, List.getElem?_cons_succ]; rfl) (fun K hK => ?_) AllReadyH.nil
  rw [if_pos (by rfl)]
  go_simp
  go_at_call 31
  refine (HEn.out _ HB1.out).mono ?_
  rintro e w2 ⟨rfl, m2, rfl⟩
  have HB2 := hid (below_drewN HB1.out m2)
  dsimp only
  refine hK.out _ _ HB2.out (fun _ => ?_)
  clear hK K HB1
  generalize w1.drewN m2 = w2 at *
  refine wpAnyH_ready (rs := [8]) (by kernel_rfl) (by simp) ?_
  refine AllReadyH.cons (by simp only [List.getElem?_toArray, List.getElem?_cons_zero, List.getElem?_cons_succ]; rfl) (fun K hK => ?_) AllReadyH.nil
  rw [if_pos (by rfl)]
  go_simp
  go_at_call 30
  refine (HCl.out _ HB2.out).mono ?_
  rintro e w3 ⟨v, rfl, hown, hb3⟩
  have HB3 := hid (HB2.out.trans (hb3.mono HB2.out.size))
  have HO3 := hid (own_le hown HB2.out.size)
  clear hown hb3
  dsimp only
  refine hK.out _ _ HB3.out (fun _ => ?_)
  clear hK K HB2
  refine wpAnyH_ready (rs := [9]) (by kernel_rfl) (by simp) ?_
  refine AllReadyH.cons (by simp only [List.getElem?_toArray, List.getElem?_cons_zero, List.getElem?_cons_succ]; rfl) (fun K hK => ?_) AllReadyH.nil
  rw [if_pos (by rfl)]
  go_simp
  refine hK.out _ _ HB3.out (fun _ => ?_)
  clear hK K
  refine wpAnyH_done (by kernel_rfl) ?_ _
  refine NoPanic.normal ?_
  go_wp2
  go_ret
  exact ⟨_, rfl, HO3.out, HB3.out⟩
end Go.Proofs.YtlgablepckmogaaGreat
