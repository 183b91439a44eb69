/-
  The walks of layer 6 (ring): the ring's contract; none, Size, Len, end, keep, put, Add.
-/
import Derived.Test.YtlgablepckmogaaGreatQ28
import Derived.Test.YtlgablepckmogaaGreatQ35
import Derived.Test.YtlgablepckmogaaGreatQ39
namespace Go.Port
open Go.RowKit
/-- A ring (at block rb, its bytes in the row named) may have turned: nothing else did; its row is the old one or a new one. -/
structure Turned (rb : Nat) (row row' : Option Nat) (w w' : World) : Prop where
  os : w'.os = w.os
  tape : w'.tape = w.tape
  output : w'.output = w.output
  size : w.heap.size ≤ w'.heap.size
  block : ∀ k, k < w.heap.size → k ≠ rb → some k ≠ row → w'.heap[k]? = w.heap[k]?
  next : row' = row ∨ ∀ r, row' = some r → w.heap.size ≤ r
theorem Turned.refl (rb : Nat) (row : Option Nat) (w : World) : Turned rb row row w w := ⟨rfl, rfl, rfl, Nat.le_refl _, fun _ _ _ _ => rfl, .inl rfl⟩
theorem Turned.of_below {rb : Nat} {row : Option Nat} {w w' : World} (h : Below w.heap.size w w') : Turned rb row row w w' := ⟨h.os, h.tape, h.output, h.size, fun k hk _ _ => h.block k hk, .inl rfl⟩
theorem Turned.trans {rb : Nat} {r0 r1 r2 : Option Nat} {w w1 w2 : World} (h : Turned rb r0 r1 w w1) (k : Turned rb r1 r2 w1 w2) : Turned rb r0 r2 w w2 := by
  refine ⟨k.os.trans h.os, k.tape.trans h.tape, k.output.trans h.output, Nat.le_trans h.size k.size, fun b hb h1 h2 => (k.block b (Nat.lt_of_lt_of_le hb h.size) h1 (fun e => ?_)).trans (h.block b hb h1 h2), ?_⟩
  · rcases h.next with h3 | h3
    · rw [h3] at e; exact h2 e
    · have := h3 b e.symm; omega
  · rcases k.next with h3 | h3
    · rw [h3]; exact h.next
    · exact .inr fun r e => Nat.le_trans h.size (h3 r e)
theorem Turned.far {rb : Nat} {r0 r1 : Option Nat} {w w1 : World} (h : Turned rb r0 r1 w w1) {b : Nat} (hb : b < w.heap.size) (h2 : some b ≠ r0) : some b ≠ r1 := fun e => by
  rcases h.next with h3 | h3
  · rw [h3] at e; exact h2 e
  · have := h3 b e.symm; omega
theorem Turned.blk {rb : Nat} {r0 r1 : Option Nat} {w w1 : World} (h : Turned rb r0 r1 w w1) {b : Nat} {vs : List Value} {t : TypeId} (hb : Blk w b vs t) (h1 : b ≠ rb) (h2 : some b ≠ r0) : Blk w1 b vs t := (h.block b hb.lt h1 h2).trans hb
theorem Turned.below {rb : Nat} {r0 r1 : Option Nat} {w w1 : World} (h : Turned rb r0 r1 w w1) {B : Nat} (hB : B ≤ w.heap.size) (h1 : B ≤ rb) (h2 : ∀ r, r0 = some r → B ≤ r) : Below B w w1 :=
  ⟨h.os, h.tape, h.output, h.size, fun k hk => h.block k (by omega) (by omega) (fun e => by have := h2 k e.symm; omega)⟩
theorem Turned.cells {rb : Nat} {r0 r1 : Option Nat} {w w1 : World} (h : Turned rb r0 r1 w w1) {a : Option Addr} {cs : List Value} (hc : CellsAt w a cs) (h1 : ∀ x, a = some x → x.block ≠ rb ∧ some x.block ≠ r0) : CellsAt w1 a cs := by
  intro j u hu
  obtain ⟨b, o, rfl, h3, h4⟩ := hc j u hu
  obtain ⟨h5, h6⟩ := h1 _ rfl
  refine ⟨b, o, rfl, Nat.lt_of_lt_of_le h3 h.size, ?_⟩
  rw [← h4]
  have := h.block b h3 h5 h6
  simp only [World.cell?, this]
theorem own_kept {w w' : World} {base sz n : Nat} {e : TypeId} {v : Value} {xs : List Value} (h : w.ownsRow base e sz v n xs) (ho : ∀ k, v.ownBlock = some k → w'.heap[k]? = w.heap[k]?) : w'.ownsRow base e sz v n xs := by
  obtain ⟨hl, h2⟩ := h
  refine ⟨hl, ?_⟩
  rcases h2 with h2 | ⟨g, cap, cur, rfl, h3, h4, h5⟩
  · exact .inl h2
  · exact .inr ⟨g, cap, cur, rfl, h3, (ho g rfl).trans h4, h5⟩
theorem own_at {w : World} {base n cl : Nat} {e : TypeId} {al : Option Addr} {xs : List Value} (h : w.ownsRow base e 1 (.slice al n cl) n xs) (hn : 0 < n) : ∃ g, al = some ⟨g, 0, none⟩ ∧ n ≤ cl ∧ CellsAt w al xs := by
  have hc := (Sl.of_owns h).cells' rfl
  have hp := (Sl.of_owns h).cap rfl
  rcases h.2 with ⟨h1, h2⟩ | ⟨g, cap, cur, h1, _⟩
  · cases h1; omega
  · cases h1
    exact ⟨g, rfl, hp.1, hc⟩
theorem Turned.own {rb : Nat} {r0 r1 : Option Nat} {w w1 : World} (h : Turned rb r0 r1 w w1) {base sz n : Nat} {e : TypeId} {v : Value} {xs : List Value} (ho : w.ownsRow base e sz v n xs) (h1 : ∀ k, v.ownBlock = some k → k ≠ rb ∧ some k ≠ r0) : w1.ownsRow base e sz v n xs :=
  own_kept ho fun k hk => h.block k (ho.lt k hk).2 (h1 k hk).1 (h1 k hk).2
/-- The ring at block rb: its bytes in the row named, its size, its stream. -/
structure RgAt (tr te : TypeId) (base rb : Nat) (row : Option Nat) (size : Nat) (st : List UInt8) (w : World) : Prop where
  ex : ∃ (al : Option Addr) (cl : Nat) (last : List UInt8) (tot : Int), Blk w rb [.slice al last.length cl, .int .i64 (size : Int), .int .i64 tot] tr ∧ w.ownsRow base te 1 (.slice al last.length cl) last.length (last.map bv) ∧ (Value.slice al last.length cl).ownBlock = row ∧ RingIn size st last
  rb0 : base ≤ rb
  s1 : 1 ≤ size
  s2 : size ≤ 134217728
  len : st.length ≤ 1000000
  ne : tr ≠ te
theorem RgAt.row0 {tr te : TypeId} {base rb : Nat} {row : Option Nat} {size : Nat} {st : List UInt8} {w : World} (h : RgAt tr te base rb row size st w) : ∀ r, row = some r → base ≤ r ∧ r < w.heap.size ∧ r ≠ rb := by
  obtain ⟨al, cl, last, tot, h1, h2, h3, _⟩ := h.ex
  intro r e
  rw [← h3] at e
  refine ⟨(h2.lt r e).1, (h2.lt r e).2, fun he => ?_⟩
  subst he
  exact own_neT h2 h1 h.ne e.symm
theorem RgAt.below {tr te : TypeId} {base rb : Nat} {row : Option Nat} {size : Nat} {st : List UInt8} {w w' : World} (h : RgAt tr te base rb row size st w) (hb : Below w.heap.size w w') : RgAt tr te base rb row size st w' := by
  obtain ⟨al, cl, last, tot, h1, h2, h3, h4⟩ := h.ex
  exact ⟨⟨al, cl, last, tot, h1.below hb h1.lt, own_low h2 hb, h3, h4⟩, h.rb0, h.s1, h.s2, h.len, h.ne⟩
theorem RgAt.kept {tr te : TypeId} {base rb : Nat} {row : Option Nat} {size : Nat} {st : List UInt8} {w w' : World} (h : RgAt tr te base rb row size st w) (hb : ∀ k, k = rb ∨ row = some k → w'.heap[k]? = w.heap[k]?) : RgAt tr te base rb row size st w' := by
  obtain ⟨al, cl, last, tot, h1, h2, h3, h4⟩ := h.ex
  exact ⟨⟨al, cl, last, tot, (hb rb (.inl rfl)).trans h1, own_kept h2 (fun k hk => hb k (.inr (h3 ▸ hk))), h3, h4⟩, h.rb0, h.s1, h.s2, h.len, h.ne⟩
end Go.Port
namespace Go.Proofs.YtlgablepckmogaaGreat
open Go.RowKit Go.Port
theorem bounds_all {P : Program} (n c l h : Nat) (hl : l ≤ h) (hh : h ≤ c) (W : World) : (Instr.sliceBounds true n c (some (.int .i64 (l : Int))) (some (.int .i64 (h : Int))) (some (.int .i64 (h : Int)))).run P W = .ok (l, h, h) W := by
  have h1 : (h : Int) ≤ (c : Int) := by omega
  simp [Instr.sliceBounds, Instr.sliceBound, asIntOf, hl, h1]
theorem bounds_hm {P : Program} (n c h : Nat) (hh : h ≤ c) (W : World) : (Instr.sliceBounds true n c none (some (.int .i64 (h : Int))) (some (.int .i64 (h : Int)))).run P W = .ok (0, h, h) W := by
  have h1 : (h : Int) ≤ (c : Int) := by omega
  simp [Instr.sliceBounds, Instr.sliceBound, asIntOf, h1]
theorem cut_u8_all (ad : Option Addr) (n c l h : Nat) (hl : l ≤ h) (hh : h ≤ c) (W : World) : (Instr.slice 22 (.slice ad n c) (some (.int .i64 (l : Int))) (some (.int .i64 (h : Int))) (some (.int .i64 (h : Int)))).run Tryz.prog W = .ok (.slice (cutA ad h l 1) (h - l) (h - l)) W := by
  obtain ⟨i, h1, h2⟩ := info_size (P := Tryz.prog) (e := 5) (n := 1) (by kernel_rfl)
  simp [Instr.slice, run_underlying Tryz.underlying22, bounds_all n c l h hl hh, sizeOf, typeInfo, h1, h2, cutA]
theorem cut_u8_hm (ad : Option Addr) (n c h : Nat) (hh : h ≤ c) (W : World) : (Instr.slice 22 (.slice ad n c) none (some (.int .i64 (h : Int))) (some (.int .i64 (h : Int)))).run Tryz.prog W = .ok (.slice (cutA ad h 0 1) h h) W := by
  obtain ⟨i, h1, h2⟩ := info_size (P := Tryz.prog) (e := 5) (n := 1) (by kernel_rfl)
  simp [Instr.slice, run_underlying Tryz.underlying22, bounds_hm n c h hh, sizeOf, typeInfo, h1, h2, cutA]
theorem rgnone_any (rb size : Nat) (lv : Value) (tot : Int) (w : World) (hb : Blk w rb [lv, .int .i64 (size : Int), .int .i64 tot] 66) (h1 : 1 ≤ size) :
    Calls Tryz.prog 29 #[.pointer (some ⟨rb, 0, none⟩)] w fun e w' => e = .returned (.bool false) ∧ w = w' := by
  have c1 := hb.cell (k := 1) rfl
  have hn : ((size : Int) == 0) = false := by simp; omega
  clear hb h1
  go_enter Tryz.func29, Tryz.ntmps29
  go_wp2
  go_ret
  exact ⟨rfl, rfl⟩
theorem rgsize_any (rb size : Nat) (lv : Value) (tot : Int) (w : World) (hb : Blk w rb [lv, .int .i64 (size : Int), .int .i64 tot] 66) (h1 : 1 ≤ size) :
    Calls Tryz.prog 49 #[.pointer (some ⟨rb, 0, none⟩)] w fun e w' => e = .returned (.int .i64 (size : Int)) ∧ w = w' := by
  have HN := hid (rgnone_any rb size lv tot w hb h1)
  have c1 := hb.cell (k := 1) rfl
  clear hb h1
  go_enter Tryz.func49, Tryz.ntmps49
  go_wp2_with (go_at_call 29; refine HN.out.mono ?_; rintro e w' ⟨rfl, rfl⟩)
  go_ret
  exact ⟨rfl, rfl⟩
theorem rglen_any (rb size n cl : Nat) (al : Option Addr) (tot : Int) (w : World) (hb : Blk w rb [.slice al n cl, .int .i64 (size : Int), .int .i64 tot] 66) (h1 : 1 ≤ size) :
    Calls Tryz.prog 32 #[.pointer (some ⟨rb, 0, none⟩)] w fun e w' => e = .returned (.int .i64 ((min size n : Nat) : Int)) ∧ ∃ m, w' = w.drewN m := by
  have HN := hid (rgnone_any rb size _ tot w hb h1)
  have c0 := hb.cell (k := 0) rfl
  have c1 := hb.cell (k := 1) rfl
  clear hb h1
  go_enter Tryz.func32, Tryz.ntmps32
  go_wp2_with (go_at_call 29; refine HN.out.mono ?_; rintro e w' ⟨rfl, rfl⟩)
  go_quiet (fail)
  go_wp2
  go_ret
  refine ⟨ret_i ?_, _, rfl⟩
  first | omega | (split <;> omega)
theorem rgend_any (rb g n size cl k : Nat) (tot : Int) (w : World) (hb : Blk w rb [.slice (some ⟨g, 0, none⟩) n cl, .int .i64 (size : Int), .int .i64 tot] 66) (h1 : 1 ≤ k) (hs : k ≤ n) (hn : n ≤ 1000000) (hcl : n ≤ cl) :
    Calls Tryz.prog 31 #[.pointer (some ⟨rb, 0, none⟩), .int .i64 (k : Int)] w fun e w' => e = .returned (.slice (some ⟨g, n - k, none⟩) k k) ∧ ∃ m, w' = w.drewN m := by
  have c0 := hb.cell (k := 0) rfl
  have hw : IntKind.i64.wrap ((n : Int) - (k : Int)) = ((n - k : Nat) : Int) := by rw [IntKind.wrap_i64]; omega
  have hcut : ∀ W, (Instr.slice 22 (.slice (some ⟨g, 0, none⟩) n cl) (some (.int .i64 ((n - k : Nat) : Int))) (some (.int .i64 (n : Int))) (some (.int .i64 (n : Int)))).run Tryz.prog W = .ok (.slice (some ⟨g, n - k, none⟩) k k) W := fun W => by
    rw [cut_u8_all _ n cl (n - k) n (by omega) hcl W]
    unfold cutA
    rw [if_neg (by omega), Option.map_some, Go.WideShapes.add_plain, show n - (n - k) = k from by omega]
    simp
  clear hb h1 hs hn hcl
  go_enter Tryz.func31, Tryz.ntmps31
  go_wp2
  go_quiet (fail)
  go_wp2
  go_ret
  exact ⟨rfl, _, rfl⟩
set_option maxRecDepth 100000 in
set_option maxHeartbeats 1000000 in
theorem rgkeep_any (base rb : Nat) (row : Option Nat) (size : Nat) (st : List UInt8) (w : World) (h : RgAt 66 5 base rb row size st w) :
    Calls Tryz.prog 48 #[.pointer (some ⟨rb, 0, none⟩), .int .i64 (size : Int)] w fun e w' => e = .returned (.tuple #[]) ∧ ∃ row', RgAt 66 5 base rb row' size st w' ∧ Turned rb row row' w w' := by
  obtain ⟨al, cl, last, tot, h1, h2, h3, h4⟩ := h.ex
  have hlen := h.len
  have hle := h4.le
  have hs1 := h.s1
  have hs2 := h.s2
  have hll : last.length ≤ 1000000 := by omega
  have c0 := h1.cell (k := 0) rfl
  have z0 := h1.frozen 0
  have hw : IntKind.i64.wrap (2 * (size : Int)) = 2 * (size : Int) := by rw [IntKind.wrap_i64]; omega
  by_cases hgt : 2 * size < last.length
  · have hgtI : 2 * (size : Int) < (last.length : Int) := by omega
    obtain ⟨g, e1, hcl, hq⟩ := own_at h2 (by omega)
    subst e1
    have hw2 : IntKind.i64.wrap ((last.length : Int) - (size : Int)) = ((last.length - size : Nat) : Int) := by rw [IntKind.wrap_i64]; omega
    have hcut : ∀ W, (Instr.slice 22 (.slice (some ⟨g, 0, none⟩) last.length cl) (some (.int .i64 ((last.length - size : Nat) : Int))) (some (.int .i64 (last.length : Int))) (some (.int .i64 (last.length : Int)))).run Tryz.prog W = .ok (.slice (some ⟨g, last.length - size, none⟩) size size) W := fun W => by
      rw [cut_u8_all _ _ cl (last.length - size) last.length (by omega) hcl W]
      unfold cutA
      rw [if_neg (by omega), Option.map_some, Go.WideShapes.add_plain, show last.length - (last.length - size) = size from by omega]
      simp
    have hdl : (last.drop (last.length - size)).length = size := by rw [List.length_drop]; omega
    have hcs : CellsAt w (some ⟨g, last.length - size, none⟩) ((last.drop (last.length - size)).map bv) := by
      intro j u hu
      rw [List.map_drop, List.getElem?_drop] at hu
      obtain ⟨b, o, e, k1, k2⟩ := hq _ u hu
      cases e
      exact ⟨_, _, rfl, k1, by rw [Nat.zero_add] at k2; exact k2⟩
    have HCl := hid (bclone_any (some ⟨g, last.length - size, none⟩) size (last.drop (last.length - size)) w (by omega) (by omega) (fun e => by cases e) hcs)
    rw [hdl] at HCl
    have HX := hid (And.intro h (And.intro h1 (And.intro h2 (And.intro h3 h4))))
    clear h h1 h2 h3 h4 hcl hcs hq
    have hwk := hlen
    clear hlen hle hs2
    go_enter Tryz.func48, Tryz.ntmps48
    go_wp2_with (go_at_call 30; refine HCl.out.mono ?_; refine Hid.out ?_)
    refine hid ?_
    rintro e w1 ⟨v, rfl, hown, hb1⟩
    obtain ⟨h, h1, h2, h3, h4⟩ := HX.out
    obtain ⟨av, cv, rfl⟩ := own_slice hown
    have y1 := h1.below hb1 h1.lt
    have y0 := y1.cell (k := 0) rfl
    have z1 := y1.frozen 0
    have HO := hid hown
    have HB := hid hb1
    have HY := hid y1
    clear hown hb1 h h1 h2 h3 h4 c0 z0 y1
    dsimp only
    go_wp2
    go_end0
    obtain ⟨h, h1, h2, h3, h4⟩ := HX.out
    refine ⟨rfl, (Value.slice av size cv).ownBlock, ⟨⟨av, cv, last.drop (last.length - size), tot, ?_, ?_, ?_, h4.keep (by omega)⟩, h.rb0, h.s1, h.s2, h.len, h.ne⟩, ?_⟩
    · rw [hdl]
      exact HY.out.set 0 _
    · rw [hdl]
      have hbw : base ≤ w.heap.size := Nat.le_trans h.rb0 (Nat.le_of_lt h1.lt)
      exact own_le (ownsRow_setCell_other HO.out (a := ⟨rb, 0, none⟩) (fun e => by have h7 : w.heap.size ≤ rb := (HO.out.lt _ e).1; have := h1.lt; omega) _) hbw
    · rw [hdl]
    · refine ⟨HB.out.os, HB.out.tape, HB.out.output, Nat.le_trans HB.out.size (by simp), fun k hk hk1 hk2 => ?_, .inr fun r e => (HO.out.lt r e).1⟩
      rw [Below.heap_setCell _ ⟨rb, 0, none⟩ _ k (fun e => hk1 e)]
      exact HB.out.block k hk
  · have hgtI : ¬ 2 * (size : Int) < (last.length : Int) := by omega
    have HX := hid h
    clear h h1 h2 h3 h4
    go_enter Tryz.func48, Tryz.ntmps48
    go_wp2
    go_end0
    exact ⟨rfl, row, HX.out, Turned.refl _ _ _⟩
end Go.Proofs.YtlgablepckmogaaGreat
