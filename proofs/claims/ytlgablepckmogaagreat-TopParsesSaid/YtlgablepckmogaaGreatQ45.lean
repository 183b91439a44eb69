/-
  The walks of layer 26 (exec), second part: a plan that breaks no rule is checked.
-/
import Derived.Test.YtlgablepckmogaaGreatQ44
namespace Go.Port
open Go.RowKit
def litT : List Sq → Int
  | [] => 0
  | s :: r => s.lit + litT r
theorem litT_snoc (l : List Sq) (s : Sq) : litT (l ++ [s]) = litT l + s.lit := by
  induction l with
  | nil => simp [litT]
  | cons x r ih => simp only [List.cons_append, litT, ih]; omega
theorem endOf_snoc2 (l : List Sq) (s : Sq) : endOf 0 (l ++ [s]) = endOf 0 l + s.lit + s.len := endOf_snoc l s 0
theorem take_snoc {α : Type} {l : List α} {k : Nat} {s : α} (h : l[k]? = some s) : l.take (k + 1) = l.take k ++ [s] := by
  rw [List.take_add_one, h]
  rfl
end Go.Port
namespace Go.Proofs.YtlgablepckmogaaGreat
open Go.RowKit Go.Port
set_option maxRecDepth 100000 in
set_option maxHeartbeats 8000000 in
theorem xchecked_ok (l : List Sq) (a : Option Addr) (c : Nat) (size hav lits : Int) (w : World) (hl : l.length ≤ 1000000) (hc : CellsAt w a (l.flatMap sqc)) (h1 : 1 ≤ size) (h2 : size ≤ 134217728) (h3 : 0 ≤ hav) (h4 : hav ≤ size) (h5 : 0 ≤ lits) (h6 : lits ≤ 1000000)
    (hv : ∀ (k : Nat) s, l[k]? = some s → XIn ⟨s, (k : Int), size, hav, lits - litT (l.take k), 131072, endOf 0 (l.take k)⟩ ∧ XFit ⟨s, (k : Int), size, hav, lits - litT (l.take k), 131072, endOf 0 (l.take k)⟩) (he : lits - litT l ≤ 131072 - endOf 0 l) (he0 : 0 ≤ lits - litT l) (he1 : 0 ≤ endOf 0 l) :
    Calls Tryz.prog 72 #[.int .i64 size, .int .i64 hav, .int .i64 lits, .int .i64 131072, .slice a l.length c] w (RetV w (.tuple #[.int .i64 0, .int .i64 (endOf 0 l + (lits - litT l)), .int .i64 0])) := by
  obtain ⟨w3, hw3⟩ : ∃ w3, w3 = ((w.alloc (.cells #[.int .i64 0] 3)).alloc (.cells #[.int .i64 0] 3)).alloc (.cells #[.int .i64 0] 25) := ⟨_, rfl⟩
  have hs1 : (w.alloc (.cells #[.int .i64 0] 3)).heap.size = w.heap.size + 1 := by simp
  have hs2 : ((w.alloc (.cells #[.int .i64 0] 3)).alloc (.cells #[.int .i64 0] 3)).heap.size = w.heap.size + 2 := by simp
  have hs3 : w3.heap.size = w.heap.size + 3 := by rw [hw3]; simp
  have hb3 : Below w.heap.size w w3 := by rw [hw3]; exact ((below_new w _).alloc (by simp) _).alloc (by simp; omega) _
  have hA : Blk w3 w.heap.size [.int .i64 0] 3 := by rw [hw3]; exact ((Blk.new w [.int .i64 0] 3).alloc _).alloc _
  have hT : Blk w3 (w.heap.size + 1) [.int .i64 0] 3 := by
    have := Blk.new (w.alloc (.cells #[.int .i64 0] 3)) [.int .i64 0] 3
    rw [hs1] at this
    rw [hw3]
    exact this.alloc _
  have hE : Blk w3 (w.heap.size + 2) [.int .i64 0] 25 := by
    have := Blk.new ((w.alloc (.cells #[.int .i64 0] 3)).alloc (.cells #[.int .i64 0] 3)) [.int .i64 0] 25
    rw [hs2] at this
    rw [hw3]
    exact this
  have m1 : ¬ min (min hav lits) 131072 < 0 := by omega
  have m2 : min hav size = hav := by omega
  have n1 : ¬ size < 1 := by omega
  have n2 : ¬ 134217728 < size := by omega
  have HC := hid hc
  have HV := hid hv
  have HB3 := hid hb3
  have HA3 := hid hA
  have HT3 := hid hT
  have HE3 := hid hE
  have HS3 := hid hs3
  have HW := hid hw3
  have HN := hid (And.intro hl (And.intro h5 (And.intro h6 (And.intro he (And.intro he0 he1)))))
  have HH := hid h3
  clear hc hv hb3 hA hT hE hs1 hs2 hs3 hw3 hl h1 h2 h3 h4 h5 h6 he he0 he1
  go_enter_defers Tryz.func72, Tryz.ntmps72
  go_upto_region 1 with fail
  rw [← HW.out]
  go_cut [34] from 18 to 34 (fun t wx => t = .bool false ∧ wx = w3)
  case first =>
    have p1 : ¬ hav < 0 := by have := HH.out; omega
    have p2 : ¬ lits < 0 := by have := HN.out; omega
    go_wp2
    all_goals (go_meet; simp)
  case rest =>
    obtain ⟨rfl, rfl⟩ := hcut
    have hlk := Blk.new wc (xkc ⟨⟨0, 0, 0⟩, 0, size, hav, lits, 131072, 0⟩) 177
    have HLk := hid hlk
    have HA4 := hid (HA3.out.alloc (.cells (xkc ⟨⟨0, 0, 0⟩, 0, size, hav, lits, 131072, 0⟩).toArray 177))
    have HT4 := hid (HT3.out.alloc (.cells (xkc ⟨⟨0, 0, 0⟩, 0, size, hav, lits, 131072, 0⟩).toArray 177))
    have HE4 := hid (HE3.out.alloc (.cells (xkc ⟨⟨0, 0, 0⟩, 0, size, hav, lits, 131072, 0⟩).toArray 177))
    have HB4 := hid (HB3.out.alloc HB3.out.size (.cells (xkc ⟨⟨0, 0, 0⟩, 0, size, hav, lits, 131072, 0⟩).toArray 177))
    unfold xkc at HLk HA4 HT4 HE4 HB4
    dsimp only at HLk HA4 HT4 HE4 HB4
    clear hlk HA3 HT3 HE3 HB3
    have HR := hid xrules_any
    have HR1 := hid xrule1_any
    have HR2 := hid xrule2_any
    have HM := hid xmust_any
    unfold xkv at HR1 HR2
    obtain ⟨kb, hkb⟩ : ∃ kb, kb = wc.heap.size := ⟨_, rfl⟩
    rw [← hkb] at HLk
    have HKb := hid (show kb = w.heap.size + 3 by rw [hkb]; exact HS3.out)
    have HKe := hid hkb
    clear hkb
    go_wp2
    rw [← HKe.out]
    generalize wc.alloc (.cells #[.int .i64 0, .int .i64 0, .int .i64 0, .int .i64 0, .int .i64 size, .int .i64 hav, .int .i64 lits, .int .i64 131072, .int .i64 0] 177) = w4 at *
    clear HKe HS3 m1 m2 n1 n2
    go_loopw [44] (fun i wr => ∃ (k : Nat) (s0 : Sq) (n0 : Int), k ≤ l.length ∧ i = .int .i64 (k : Int) ∧ Blk wr kb (xkc ⟨s0, n0, size, hav, lits - litT (l.take k), 131072, endOf 0 (l.take k)⟩) 177 ∧ Blk wr w.heap.size [.int .i64 0] 3 ∧ Blk wr (w.heap.size + 1) [.int .i64 0] 3 ∧ Blk wr (w.heap.size + 2) [.int .i64 0] 25 ∧ Below w.heap.size w wr) (fun i _ => l.length - (intOf i).toNat)
    case atStart => exact ⟨0, ⟨0, 0, 0⟩, 0, Nat.zero_le _, rfl, by have := HLk.out; simpa [litT, endOf, xkc] using this, HA4.out, HT4.out, HE4.out, HB4.out⟩
    case round =>
      obtain ⟨k, s0, n0, hk, rfl, hK, hA, hT, hE, hB⟩ := hrel
      have HKn := hid hk
      by_cases hlt : k < l.length
      · obtain ⟨s, hs⟩ : ∃ s, l[k]? = some s := ⟨l[k], by simp [hlt]⟩
        obtain ⟨hIn, hFit⟩ := HV.out k s hs
        have hts := take_snoc hs
        have hli := litT_snoc (l.take k) s
        have hen := endOf_snoc2 (l.take k) s
        rw [← hts] at hli hen
        have HNx := hid (And.intro hli hen)
        obtain ⟨bl, o, rfl, hbl, y0⟩ := HC.out (k * 3 + 0) (.int .i64 s.lit) (by rw [sqc_get hs 0 (by omega)]; rfl)
        obtain ⟨_, _, e, _, y1⟩ := HC.out (k * 3 + 1) (.int .i64 s.len) (by rw [sqc_get hs 1 (by omega)]; rfl)
        cases e
        obtain ⟨_, _, e, _, y2⟩ := HC.out (k * 3 + 2) (.int .i64 s.off) (by rw [sqc_get hs 2 (by omega)]; rfl)
        cases e
        rw [Nat.add_zero] at y0
        rw [← Nat.add_assoc] at y1 y2
        replace y0 := (hB.cell (p := ⟨bl, o + k * 3, none⟩) hbl).trans y0
        replace y1 := (hB.cell (p := ⟨bl, o + k * 3 + 1, none⟩) hbl).trans y1
        replace y2 := (hB.cell (p := ⟨bl, o + k * 3 + 2, none⟩) hbl).trans y2
        have hkI : (k : Int) < (l.length : Int) := by omega
        obtain ⟨lit, len, off⟩ := s
        have hwr : w.heap.size + 3 < wr.heap.size := by have := hK.lt; have := HKb.out; omega
        obtain ⟨i1, i2, i3, i4, i5, i6, i7, i8, i9, i10, i11, i12, i13⟩ := hIn
        obtain ⟨f1, f2, f3, f4, f5⟩ := hFit
        dsimp only at *
        have HIn : Hid (XIn ⟨⟨lit, len, off⟩, (k : Int), size, hav, lits - litT (l.take k), 131072, endOf 0 (l.take k)⟩) := hid ⟨i1, i2, i3, i4, i5, i6, i7, i8, i9, i10, i11, i12, i13⟩
        have HFit : Hid (XFit ⟨⟨lit, len, off⟩, (k : Int), size, hav, lits - litT (l.take k), 131072, endOf 0 (l.take k)⟩) := hid ⟨f1, f2, f3, f4, f5⟩
        have hlI : 0 ≤ lits ∧ lits ≤ 1000000 := ⟨HN.out.2.1, HN.out.2.2.1⟩
        generalize hL : lits - litT (l.take k) = L at *
        generalize hE0 : endOf 0 (l.take k) = E0 at *
        have HLE := hid (And.intro hL hE0)
        have HWr := hid (show IntKind.i64.wrap (L - lit) = L - lit ∧ IntKind.i64.wrap (lit + len) = lit + len ∧ IntKind.i64.wrap (E0 + (lit + len)) = E0 + (lit + len) from by refine ⟨?_, ?_, ?_⟩ <;> (rw [IntKind.wrap_i64]; omega))
        have HS5 := hid (Blk.new wr [.int .i64 lit, .int .i64 len, .int .i64 off] 43)
        have HK5 := hid (hK.alloc (.cells #[.int .i64 lit, .int .i64 len, .int .i64 off] 43))
        have HA5 := hid (hA.alloc (.cells #[.int .i64 lit, .int .i64 len, .int .i64 off] 43))
        have HT5 := hid (hT.alloc (.cells #[.int .i64 lit, .int .i64 len, .int .i64 off] 43))
        have HE5 := hid (hE.alloc (.cells #[.int .i64 lit, .int .i64 len, .int .i64 off] 43))
        have HB5 := hid (hB.alloc hB.size (.cells #[.int .i64 lit, .int .i64 len, .int .i64 off] 43))
        have HSw := hid (show kb < wr.heap.size from hK.lt)
        clear hA hT hE hB hK hlI hs hts hli hen i1 i2 i3 i4 i5 i6 i7 i8 i9 i10 i11 i12 i13 f1 f2 f3 f4 f5 hk hlt hL hE0 hwr
        go_upto_region 8 with fail
        obtain ⟨sb, hsb⟩ : ∃ sb, sb = wr.heap.size := ⟨_, rfl⟩
        rw [← hsb] at HS5 HSw ⊢
        clear hsb y0 y1 y2
        generalize wr.alloc (.cells #[.int .i64 lit, .int .i64 len, .int .i64 off] 43) = w5 at *
        have hsk : kb ≠ sb := by have := HSw.out; omega
        have hne : ∀ b, b = w.heap.size ∨ b = w.heap.size + 1 ∨ b = w.heap.size + 2 → kb ≠ b := fun b hb => by have := HKb.out; omega
        have hkw : w.heap.size ≤ kb := by have := HKb.out; omega
        have oth : ∀ {b : Nat} {vs : List Value} {t : TypeId}, Blk w5 b vs t → kb ≠ b → Blk ((((w5.setCell ⟨kb, 0, none⟩ (.int .i64 lit)).setCell ⟨kb, 1, none⟩ (.int .i64 len)).setCell ⟨kb, 2, none⟩ (.int .i64 off)).setCell ⟨kb, 3, none⟩ (.int .i64 (k : Int))) b vs t := fun h hn => (((h.other _ hn).other _ hn).other _ hn).other _ hn
        have HS6 := hid (oth HS5.out hsk)
        have HA6 := hid (oth HA5.out (hne _ (.inl rfl)))
        have HT6 := hid (oth HT5.out (hne _ (.inr (.inl rfl))))
        have HE6 := hid (oth HE5.out (hne _ (.inr (.inr rfl))))
        have HK6 := hid ((((HK5.out.set 0 (.int .i64 lit)).set 1 (.int .i64 len)).set 2 (.int .i64 off)).set 3 (.int .i64 (k : Int)))
        have HB6 := hid ((((HB5.out.setCell (p := ⟨kb, 0, none⟩) hkw (.int .i64 lit)).setCell (p := ⟨kb, 1, none⟩) hkw (.int .i64 len)).setCell (p := ⟨kb, 2, none⟩) hkw (.int .i64 off)).setCell (p := ⟨kb, 3, none⟩) hkw (.int .i64 (k : Int)))
        have HNe := hid (And.intro hne hkw)
        have s0 := HS5.out.cell (k := 0) rfl
        have s1 := HS5.out.cell (k := 1) rfl
        have s2 := HS5.out.cell (k := 2) rfl
        have c0 := HK5.out.cell (k := 0) rfl
        have c1 := HK5.out.cell (k := 1) rfl
        have c2 := HK5.out.cell (k := 2) rfl
        have c3 := HK5.out.cell (k := 3) rfl
        have z0 := HK5.out.frozen 0
        have z1 := HK5.out.frozen 1
        have z2 := HK5.out.frozen 2
        have z3 := HK5.out.frozen 3
        clear hne hkw oth HS5 HA5 HT5 HE5 HK5 HB5 hsk
        dsimp only at c0 c1 c2 c3 s0 s1 s2
        go_upto_region 9 with fail
        clear s0 s1 s2 c0 c1 c2 c3 z0 z1 z2 z3
        generalize (((w5.setCell ⟨kb, 0, none⟩ (.int .i64 lit)).setCell ⟨kb, 1, none⟩ (.int .i64 len)).setCell ⟨kb, 2, none⟩ (.int .i64 off)).setCell ⟨kb, 3, none⟩ (.int .i64 (k : Int)) = w6 at *
        go_wp2_with fail
        refine (HR.out _).mono ?_
        rintro e w7 ⟨rfl, hb7⟩
        have HS7 := hid (HS6.out.below hb7 HS6.out.lt)
        have HA7 := hid (HA6.out.below hb7 HA6.out.lt)
        have HT7 := hid (HT6.out.below hb7 HT6.out.lt)
        have HE7 := hid (HE6.out.below hb7 HE6.out.lt)
        have HK7 := hid (HK6.out.below hb7 HK6.out.lt)
        have HB7 := hid (HB6.out.trans (hb7.mono HB6.out.size))
        clear hb7 HS6 HA6 HT6 HE6 HK6 HB6
        have ix0 : ∀ w : World, (Instr.index 179 (.agg #[.func (.func 123) #[] #[], .func (.func 124) #[] #[]]) (.int .i64 0)).run Tryz.prog w = .ok (.func (.func 123) #[] #[]) w := fun _ => by kernel_rfl
        have ix1 : ∀ w : World, (Instr.index 179 (.agg #[.func (.func 123) #[] #[], .func (.func 124) #[] #[]]) (.int .i64 1)).run Tryz.prog w = .ok (.func (.func 124) #[] #[]) w := fun _ => by kernel_rfl
        dsimp only
        go_wp2_with fail
        refine wp_loop_rounds 3 ?_
        rw [rounds_succ]
        have c0 := HK7.out.cell (k := 0) rfl
        have c1 := HK7.out.cell (k := 1) rfl
        have c2 := HK7.out.cell (k := 2) rfl
        have c3 := HK7.out.cell (k := 3) rfl
        have c4 := HK7.out.cell (k := 4) rfl
        have c5 := HK7.out.cell (k := 5) rfl
        have c6 := HK7.out.cell (k := 6) rfl
        have c7 := HK7.out.cell (k := 7) rfl
        have c8 := HK7.out.cell (k := 8) rfl
        dsimp only at c0 c1 c2 c3 c4 c5 c6 c7 c8
        go_wp2_with fail
        refine (HR1.out _ _ HIn.out).mono ?_
        rintro e w8 ⟨rfl, hb8⟩
        clear c0 c1 c2 c3 c4 c5 c6 c7 c8
        have HS8 := hid (HS7.out.below hb8 HS7.out.lt)
        have HA8 := hid (HA7.out.below hb8 HA7.out.lt)
        have HT8 := hid (HT7.out.below hb8 HT7.out.lt)
        have HE8 := hid (HE7.out.below hb8 HE7.out.lt)
        have HK8 := hid (HK7.out.below hb8 HK7.out.lt)
        have HB8 := hid (HB7.out.trans (hb8.mono HB7.out.size))
        clear hb8 HS7 HA7 HT7 HE7 HK7 HB7
        dsimp only
        go_wp2_with fail
        refine (HM.out _ _).mono ?_
        rintro e w9 ⟨rfl, hb9⟩
        have HS9 := hid (HS8.out.below hb9 HS8.out.lt)
        have HA9 := hid (HA8.out.below hb9 HA8.out.lt)
        have HT9 := hid (HT8.out.below hb9 HT8.out.lt)
        have HE9 := hid (HE8.out.below hb9 HE8.out.lt)
        have HK9 := hid (HK8.out.below hb9 HK8.out.lt)
        have HB9 := hid (HB8.out.trans (hb9.mono HB8.out.size))
        clear hb9 HS8 HA8 HT8 HE8 HK8 HB8
        dsimp only
        go_wp2_with fail
        rw [rounds_succ]
        have c0 := HK9.out.cell (k := 0) rfl
        have c1 := HK9.out.cell (k := 1) rfl
        have c2 := HK9.out.cell (k := 2) rfl
        have c3 := HK9.out.cell (k := 3) rfl
        have c4 := HK9.out.cell (k := 4) rfl
        have c5 := HK9.out.cell (k := 5) rfl
        have c6 := HK9.out.cell (k := 6) rfl
        have c7 := HK9.out.cell (k := 7) rfl
        have c8 := HK9.out.cell (k := 8) rfl
        dsimp only at c0 c1 c2 c3 c4 c5 c6 c7 c8
        go_wp2_with fail
        refine (HR2.out _ _ HFit.out).mono ?_
        rintro e w10 ⟨rfl, hb10⟩
        clear c0 c1 c2 c3 c4 c5 c6 c7 c8
        have HS10 := hid (HS9.out.below hb10 HS9.out.lt)
        have HA10 := hid (HA9.out.below hb10 HA9.out.lt)
        have HT10 := hid (HT9.out.below hb10 HT9.out.lt)
        have HE10 := hid (HE9.out.below hb10 HE9.out.lt)
        have HK10 := hid (HK9.out.below hb10 HK9.out.lt)
        have HB10 := hid (HB9.out.trans (hb10.mono HB9.out.size))
        clear hb10 HS9 HA9 HT9 HE9 HK9 HB9
        dsimp only
        go_wp2_with fail
        refine (HM.out _ _).mono ?_
        rintro e w11 ⟨rfl, hb11⟩
        have HS11 := hid (HS10.out.below hb11 HS10.out.lt)
        have HA11 := hid (HA10.out.below hb11 HA10.out.lt)
        have HT11 := hid (HT10.out.below hb11 HT10.out.lt)
        have HE11 := hid (HE10.out.below hb11 HE10.out.lt)
        have HK11 := hid (HK10.out.below hb11 HK10.out.lt)
        have HB11 := hid (HB10.out.trans (hb11.mono HB10.out.size))
        clear hb11 HS10 HA10 HT10 HE10 HK10 HB10
        dsimp only
        go_wp2_with fail
        rw [rounds_succ]
        clear ix0 ix1
        have c6 := HK11.out.cell (k := 6) rfl
        have c8 := HK11.out.cell (k := 8) rfl
        have s0 := HS11.out.cell (k := 0) rfl
        have s1 := HS11.out.cell (k := 1) rfl
        have z6 := HK11.out.frozen 6
        have z8 := HK11.out.frozen 8
        obtain ⟨hwa, hwb, hwc⟩ := HWr.out
        obtain ⟨hne, hkw⟩ := HNe.out
        have HK9 := hid ((HK11.out.set 6 (.int .i64 (L - lit))).set 8 (.int .i64 (E0 + (lit + len))))
        have HA9 := hid ((HA11.out.other (a := ⟨kb, 6, none⟩) (.int .i64 (L - lit)) (hne _ (.inl rfl))).other (a := ⟨kb, 8, none⟩) (.int .i64 (E0 + (lit + len))) (hne _ (.inl rfl)))
        have HT9 := hid ((HT11.out.other (a := ⟨kb, 6, none⟩) (.int .i64 (L - lit)) (hne _ (.inr (.inl rfl)))).other (a := ⟨kb, 8, none⟩) (.int .i64 (E0 + (lit + len))) (hne _ (.inr (.inl rfl))))
        have HE9 := hid ((HE11.out.other (a := ⟨kb, 6, none⟩) (.int .i64 (L - lit)) (hne _ (.inr (.inr rfl)))).other (a := ⟨kb, 8, none⟩) (.int .i64 (E0 + (lit + len))) (hne _ (.inr (.inr rfl))))
        have HB9 := hid ((HB11.out.setCell (p := ⟨kb, 6, none⟩) hkw (.int .i64 (L - lit))).setCell (p := ⟨kb, 8, none⟩) hkw (.int .i64 (E0 + (lit + len))))
        have hsk : sb ≠ kb := by have := HSw.out; omega
        clear hne hkw HK11 HA11 HT11 HE11 HB11
        dsimp only at c6 c8 s0 s1
        have hkn : (k : Int) + 1 ≤ 1000000 := by have := HN.out.1; omega
        go_wp2
        go_roundw
        case rel =>
          refine ⟨k + 1, ⟨lit, len, off⟩, (k : Int), by have := HKn.out; omega, by go_num, ?_, HA9.out, HT9.out, HE9.out, HB9.out⟩
          obtain ⟨hl1, he1⟩ := HNx.out
          obtain ⟨hl2, he2⟩ := HLE.out
          rw [hl1, he1]
          rw [show lits - (litT (l.take k) + lit) = L - lit from by omega, show E0 + lit + len = E0 + (lit + len) from by omega]
          exact HK9.out
        case measure => have := HKn.out; simp [intOf]; omega
      · obtain rfl : k = l.length := by omega
        rw [List.take_length] at hK
        obtain ⟨n1, n2, n3, n4, n5, n6⟩ := HN.out
        generalize lits - litT l = L at *
        generalize endOf 0 l = E0 at *
        have c6 := hK.cell (k := 6) rfl
        have c8 := hK.cell (k := 8) rfl
        have hwa : IntKind.i64.wrap (131072 - E0) = 131072 - E0 := by rw [IntKind.wrap_i64]; omega
        have hwb : IntKind.i64.wrap (E0 + L) = E0 + L := by rw [IntKind.wrap_i64]; omega
        have hgt : ¬ 131072 - E0 < L := by omega
        have HA := hid hA
        have HT := hid hT
        have HE := hid hE
        have HB := hid hB
        have HK := hid hK
        have hne : ∀ b, b = w.heap.size ∨ b = w.heap.size + 1 ∨ b = w.heap.size + 2 → kb ≠ b := fun b hb => by have := HKb.out; omega
        have HNe := hid hne
        dsimp only at c6 c8
        clear n1 n2 n3 n4 n5 n6 hA hT hE hB hK hne HN HV HC HM HR HR1 HR2
        go_wp2_with fail
        clear hwa hgt c6 c8
        have k6 := HK.out.cell (k := 6) rfl
        have k8 := HK.out.cell (k := 8) rfl
        dsimp only at k6 k8
        refine wp_region_noPanic ?_
        refine wp_region_held_drew (S := fun W => W.cell? ⟨kb, 6, none⟩ = some (.int .i64 L) ∧ W.cell? ⟨kb, 8, none⟩ = some (.int .i64 E0)) (by kernel_rfl) ⟨k6, k8⟩ (fun hHeld => ?_)
        refine wpAnyH_take (i := 0) (v := .pointer (some ⟨kb, 8, none⟩)) (by simp only [List.getElem?_toArray, List.getElem?_cons_zero]; rfl) (by kernel_rfl) (by kernel_rfl) (by kernel_rfl) (fun _ _ _ h => h) (Or.inl ⟨by rfl, fun W hSw => ?_⟩) (by assumption) ?_
        · clear hSw
          go_simp
        simp only [Act.put, List.setIfInBounds_toArray, List.set_cons_zero, List.set_cons_succ]
        refine wpAnyH_take (i := 1) (v := .int .i64 E0) (by simp only [List.getElem?_toArray, List.getElem?_cons_zero, List.getElem?_cons_succ]; rfl) (by kernel_rfl) (by kernel_rfl) (by kernel_rfl) (fun _ _ _ h => h) (Or.inl ⟨by rfl, fun W hSw => ?_⟩) (by assumption) ?_
        · have hcw := hSw.2
          go_simp
        simp only [Act.put, List.setIfInBounds_toArray, List.set_cons_zero, List.set_cons_succ]
        refine wpAnyH_take (i := 2) (v := .pointer (some ⟨kb, 6, none⟩)) (by simp only [List.getElem?_toArray, List.getElem?_cons_zero, List.getElem?_cons_succ]; rfl) (by kernel_rfl) (by kernel_rfl) (by kernel_rfl) (fun _ _ _ h => h) (Or.inl ⟨by rfl, fun W hSw => ?_⟩) (by assumption) ?_
        · clear hSw
          go_simp
        simp only [Act.put, List.setIfInBounds_toArray, List.set_cons_zero, List.set_cons_succ]
        refine wpAnyH_take (i := 3) (v := .int .i64 L) (by simp only [List.getElem?_toArray, List.getElem?_cons_zero, List.getElem?_cons_succ]; rfl) (by kernel_rfl) (by kernel_rfl) (by kernel_rfl) (fun _ _ _ h => h) (Or.inl ⟨by rfl, fun W hSw => ?_⟩) (by assumption) ?_
        · have hcw := hSw.1
          go_simp
        simp only [Act.put, List.setIfInBounds_toArray, List.set_cons_zero, List.set_cons_succ]
        refine wpAnyH_take (i := 4) (v := .int .i64 (E0 + L)) (by simp only [List.getElem?_toArray, List.getElem?_cons_zero, List.getElem?_cons_succ]; rfl) (by kernel_rfl) (by kernel_rfl) (by kernel_rfl) (fun _ _ _ h => h) (Or.inl ⟨by rfl, fun W hSw => ?_⟩) (by assumption) ?_
        · clear hSw
          go_simp
        simp only [Act.put, List.setIfInBounds_toArray, List.set_cons_zero, List.set_cons_succ]
        have HA1 := hid HA.out.drew
        have HT1 := hid HT.out.drew
        have HE1 := hid HE.out.drew
        have HK1 := hid HK.out.drew
        have HB1 := hid HB.out.drew
        clear k6 k8 hHeld
        have a0 := HA.out.cell (k := 0) rfl
        have t0 := HT.out.cell (k := 0) rfl
        have e0 := HE.out.cell (k := 0) rfl
        have a1 := HA.out.frozen 0
        have t1 := HT.out.frozen 0
        have e1 := HE.out.frozen 0
        refine wpAnyH_ready (rs := [5]) (by kernel_rfl) (by simp) ?_
        refine AllReadyH.cons (by simp only [List.getElem?_toArray, List.getElem?_cons_zero, List.getElem?_cons_succ]; rfl) (fun K hK => ?_) AllReadyH.nil
        rw [if_pos (by rfl)]
        go_simp
        refine hK.out _ _ ⟨(HK1.out.other (a := ⟨w.heap.size, 0, none⟩) (.int .i64 0) (Ne.symm (HNe.out _ (.inl rfl)))).cell (k := 6) rfl, (HK1.out.other (a := ⟨w.heap.size, 0, none⟩) (.int .i64 0) (Ne.symm (HNe.out _ (.inl rfl)))).cell (k := 8) rfl⟩ (fun _ => ?_)
        clear hK K
        have HA2 := hid (HA1.out.set 0 (.int .i64 0))
        have HT2 := hid (HT1.out.other (a := ⟨w.heap.size, 0, none⟩) (.int .i64 0) (by dsimp only; omega))
        have HE2 := hid (HE1.out.other (a := ⟨w.heap.size, 0, none⟩) (.int .i64 0) (by dsimp only; omega))
        have HK2 := hid (HK1.out.other (a := ⟨w.heap.size, 0, none⟩) (.int .i64 0) (by exact Ne.symm (HNe.out _ (.inl rfl))))
        have HB2 := hid (HB1.out.setCell (p := ⟨w.heap.size, 0, none⟩) (by dsimp only; omega) (.int .i64 0))
        clear HA1 HT1 HE1 HK1 HB1
        refine wpAnyH_ready (rs := [6]) (by kernel_rfl) (by simp) ?_
        refine AllReadyH.cons (by simp only [List.getElem?_toArray, List.getElem?_cons_zero, List.getElem?_cons_succ]; rfl) (fun K hK => ?_) AllReadyH.nil
        rw [if_pos (by rfl)]
        go_simp
        refine hK.out _ _ ⟨(HK2.out.other (a := ⟨w.heap.size + 1, 0, none⟩) (.int .i64 (E0 + L)) (Ne.symm (HNe.out _ (.inr (.inl rfl))))).cell (k := 6) rfl, (HK2.out.other (a := ⟨w.heap.size + 1, 0, none⟩) (.int .i64 (E0 + L)) (Ne.symm (HNe.out _ (.inr (.inl rfl))))).cell (k := 8) rfl⟩ (fun _ => ?_)
        clear hK K
        have HA3 := hid (HA2.out.other (a := ⟨w.heap.size + 1, 0, none⟩) (.int .i64 (E0 + L)) (by dsimp only; omega))
        have HT3 := hid (HT2.out.set 0 (.int .i64 (E0 + L)))
        have HE3 := hid (HE2.out.other (a := ⟨w.heap.size + 1, 0, none⟩) (.int .i64 (E0 + L)) (by dsimp only; omega))
        have HK3 := hid (HK2.out.other (a := ⟨w.heap.size + 1, 0, none⟩) (.int .i64 (E0 + L)) (by exact Ne.symm (HNe.out _ (.inr (.inl rfl)))))
        have HB3 := hid (HB2.out.setCell (p := ⟨w.heap.size + 1, 0, none⟩) (by dsimp only; omega) (.int .i64 (E0 + L)))
        clear HA2 HT2 HE2 HK2 HB2
        refine wpAnyH_ready (rs := [7]) (by kernel_rfl) (by simp) ?_
        refine AllReadyH.cons (by simp only [List.getElem?_toArray, List.getElem?_cons_zero, List.getElem?_cons_succ]; rfl) (fun K hK => ?_) AllReadyH.nil
        rw [if_pos (by rfl)]
        go_simp
        refine hK.out _ _ ⟨(HK3.out.other (a := ⟨w.heap.size + 2, 0, none⟩) (.int .i64 0) (Ne.symm (HNe.out _ (.inr (.inr rfl))))).cell (k := 6) rfl, (HK3.out.other (a := ⟨w.heap.size + 2, 0, none⟩) (.int .i64 0) (Ne.symm (HNe.out _ (.inr (.inr rfl))))).cell (k := 8) rfl⟩ (fun _ => ?_)
        clear hK K
        have HA4 := hid (HA3.out.other (a := ⟨w.heap.size + 2, 0, none⟩) (.int .i64 0) (by dsimp only; omega))
        have HT4 := hid (HT3.out.other (a := ⟨w.heap.size + 2, 0, none⟩) (.int .i64 0) (by dsimp only; omega))
        have HE4 := hid (HE3.out.set 0 (.int .i64 0))
        have HK4 := hid (HK3.out.other (a := ⟨w.heap.size + 2, 0, none⟩) (.int .i64 0) (by exact Ne.symm (HNe.out _ (.inr (.inr rfl)))))
        have HB4 := hid (HB3.out.setCell (p := ⟨w.heap.size + 2, 0, none⟩) (by dsimp only; omega) (.int .i64 0))
        clear HA3 HT3 HE3 HK3 HB3
        refine wpAnyH_done (by kernel_rfl) ?_ _
        refine NoPanic.normal ?_
        have q1 : ((((wr.setCell ⟨w.heap.size, 0, none⟩ (.int .i64 0)).setCell ⟨w.heap.size + 1, 0, none⟩ (.int .i64 (E0 + L))).setCell ⟨w.heap.size + 1 + 1, 0, none⟩ (.int .i64 0)).drew).cell? ⟨w.heap.size, 0, none⟩ = some (.int .i64 0) := HA4.out.cell (k := 0) rfl
        have q2 : ((((wr.setCell ⟨w.heap.size, 0, none⟩ (.int .i64 0)).setCell ⟨w.heap.size + 1, 0, none⟩ (.int .i64 (E0 + L))).setCell ⟨w.heap.size + 1 + 1, 0, none⟩ (.int .i64 0)).drew).cell? ⟨w.heap.size + 1, 0, none⟩ = some (.int .i64 (E0 + L)) := HT4.out.cell (k := 0) rfl
        have q3 : ((((wr.setCell ⟨w.heap.size, 0, none⟩ (.int .i64 0)).setCell ⟨w.heap.size + 1, 0, none⟩ (.int .i64 (E0 + L))).setCell ⟨w.heap.size + 1 + 1, 0, none⟩ (.int .i64 0)).drew).cell? ⟨w.heap.size + 1 + 1, 0, none⟩ = some (.int .i64 0) := HE4.out.cell (k := 0) rfl
        have HBf : Hid (Below w.heap.size w ((((wr.setCell ⟨w.heap.size, 0, none⟩ (.int .i64 0)).setCell ⟨w.heap.size + 1, 0, none⟩ (.int .i64 (E0 + L))).setCell ⟨w.heap.size + 1 + 1, 0, none⟩ (.int .i64 0)).drew)) := HB4
        clear HA4 HT4 HE4 HK4 HB4 a0 a1 t0 t1 e0 e1
        generalize (((wr.setCell ⟨w.heap.size, 0, none⟩ (.int .i64 0)).setCell ⟨w.heap.size + 1, 0, none⟩ (.int .i64 (E0 + L))).setCell ⟨w.heap.size + 1 + 1, 0, none⟩ (.int .i64 0)).drew = w9 at *
        go_wp2
        refine leaves_cons (f := 92) (args := #[.pointer (some ⟨w.heap.size, 0, none⟩), .pointer (some ⟨w.heap.size + 1, 0, none⟩), .pointer (some ⟨w.heap.size + 1 + 1, 0, none⟩)]) (by simp) (by simp [go_sem]) ?_
        refine (xcaught_idle _ _ _ _).mono ?_
        rintro e u' w'' ⟨rfl, rfl, rfl⟩
        refine ⟨_, ?_, rfl, HBf.out⟩
        simp [results, Tryz.results72, go_sem, q1, q2, q3]
end Go.Proofs.YtlgablepckmogaaGreat
