/-
  The walks of layer 32 (price), sixth part: told; LiteralLen, OffsetValue, MatchLen, Match.
  (From XRef5 and XTally3.) The walks of the histogram of one part, and of the reference of layer 5: counts, the logarithm by doublings.
-/
import Derived.Test.YtlgablepckmogaaGreatQ18
import Derived.Test.YtlgablepckmogaaGreatQ13
import Derived.Deep.OwnRows
namespace Go.Port
open Go.RowKit
/-- W' is W but for blocks from B on below N, and new ones. -/
structure Mod (B N : Nat) (W W' : World) : Prop where
  os : W'.os = W.os
  tape : W'.tape = W.tape
  output : W'.output = W.output
  size : W.heap.size ≤ W'.heap.size
  same : ∀ k, k < W.heap.size → (k < B ∨ N ≤ k) → W'.heap[k]? = W.heap[k]?
theorem Mod.of_below {B N : Nat} {W W' : World} (h : Below W.heap.size W W') : Mod B N W W' := ⟨h.os, h.tape, h.output, h.size, fun k hk _ => h.block k hk⟩
theorem Mod.below {B N : Nat} {W W' : World} (h : Mod B N W W') (hB : B ≤ W.heap.size) : Below B W W' := ⟨h.os, h.tape, h.output, h.size, fun k hk => h.same k (by omega) (.inl hk)⟩
theorem Mod.blk {B N : Nat} {W W' : World} {b : Nat} {vs : List Value} {t : TypeId} (h : Mod B N W W') (hb : Blk W b vs t) (hk : b < B ∨ N ≤ b) : Blk W' b vs t := (h.same b hb.lt hk).trans hb
/-- T hangs on the blocks below N alone. -/
def LowT (N : Nat) (T : World → Prop) : Prop := ∀ W W', T W → (∀ k, k < N → W'.heap[k]? = W.heap[k]?) → T W'
theorem LowT.true (N : Nat) : LowT N (fun _ => True) := fun _ _ _ _ => trivial
end Go.Port
namespace Go.Proofs.YtlgablepckmogaaGreat
open Go.RowKit Go.Port
/-- A closure's return, and its panic. -/
def ClR (B N : Nat) (T : World → Prop) (W : World) (x : Int) (e : Ending) (w' : World) : Prop := e = .returned (.int .i64 x) ∧ Mod B N W w' ∧ T w'
def ClP (B N : Nat) (T : World → Prop) (W : World) (n : Int) (e : Ending) (w' : World) : Prop := e = .panicked [{ v := .iface 25 (.int .i64 n), recovered := false }] ∧ Mod B N W w' ∧ T w'
/-- What told returns. -/
def TlR (B : Nat) (T : World → Prop) (w : World) (x n : Int) (e : Ending) (w' : World) : Prop := e = .returned (.tuple #[.int .i64 x, .int .i64 n]) ∧ Below B w w' ∧ T w' ∧ w.heap.size ≤ w'.heap.size
theorem TlR.low {w : World} {x n : Int} {e : Ending} {w' : World} (h : TlR w.heap.size (fun _ => True) w x n e w') : RetV w (.tuple #[.int .i64 x, .int .i64 n]) e w' := ⟨h.1, h.2.1⟩
theorem prtold1_any (p : Addr) (v : Value) (w : World) (hc : w.cell? p = some v) (hz : w.frozen? p = false) :
    Calls Tryz.prog 160 #[.pointer (some p)] w fun e w' => e = .returned (.tuple #[]) ∧ w.setCell p (.int .i64 0) = w' := by
  go_enter Tryz.func160, Tryz.ntmps160
  go_wp2
  go_end0
  exact ⟨rfl, rfl⟩
set_option maxRecDepth 100000 in
set_option maxHeartbeats 2000000 in
theorem prtold_ok (w : World) (M : Nat) (C : Nat → List Int) (f : FuncId) (cap : Array Value) (hen : ∀ args w, (callFunc f args).run Tryz.prog w = .ok (.enter f args) w) (B : Nat) (hB : B ≤ w.heap.size) (T : World → Prop) (hT : LowT w.heap.size T) (x : Int) (hf : ∀ W, Below w.heap.size w W → Calls Tryz.prog f cap W (ClR B w.heap.size T W x)) (h : PrAt w M C) :
    Calls Tryz.prog 142 #[.pointer (some ⟨M, 0, none⟩), .func (.func f) #[] cap] w (TlR B T w x 0) := by
  have hW := hid (show Below w.heap.size w ((w.alloc (.cells #[.int .i64 0] 3)).alloc (.cells #[.int .i64 0] 25)) from (below_new w _).alloc (by simp) _)
  have hb1 := hid (show Blk ((w.alloc (.cells #[.int .i64 0] 3)).alloc (.cells #[.int .i64 0] 25)) w.heap.size [.int .i64 0] 3 from (Blk.newAt rfl).alloc _)
  have hb2 := hid (show Blk ((w.alloc (.cells #[.int .i64 0] 3)).alloc (.cells #[.int .i64 0] 25)) (w.heap.size + 1) [.int .i64 0] 25 from Blk.newAt (by simp))
  have HN := hid (prno_any _ M C (h.low hW.out))
  have HF := hid (hf _ hW.out)
  have HEn := hid hen
  clear h hf hen
  have hWs : w.heap.size + 2 ≤ ((w.alloc (.cells #[.int .i64 0] 3)).alloc (.cells #[.int .i64 0] 25)).heap.size := by simp
  go_enter_defers Tryz.func142, Tryz.ntmps142
  go_wp2_with fail
  generalize (w.alloc (.cells #[.int .i64 0] 3)).alloc (.cells #[.int .i64 0] 25) = w1 at *
  refine HN.out.mono ?_
  rintro e w' ⟨rfl, rfl⟩
  have hen := HEn.out
  go_wp2_with fail
  refine HF.out.mono ?_
  rintro e w2 ⟨rfl, hm, ht⟩
  have HB := hid ((hW.out.mono hB).trans (hm.below (by have := hW.out.size; omega)))
  have H1 := hid (hm.blk hb1.out (.inr (Nat.le_refl _)))
  have H2 := hid (hm.blk hb2.out (.inr (by omega)))
  have c1 := H1.out.cell (k := 0) rfl
  have z1 := H1.out.frozen 0
  have c2 := H2.out.cell (k := 0) rfl
  have z2 := H2.out.frozen 0
  have Q1 := hid (((H1.out.set 0 (.int .i64 x)).other (a := ⟨w.heap.size + 1, 0, none⟩) (.int .i64 0) (by simp)).cell (k := 0) rfl)
  have Q2 := hid (((H2.out.other (a := ⟨w.heap.size, 0, none⟩) (.int .i64 x) (by simp)).set 0 (.int .i64 0)).cell (k := 0) rfl)
  have HT := hid (hT _ ((w2.setCell ⟨w.heap.size, 0, none⟩ (.int .i64 x)).setCell ⟨w.heap.size + 1, 0, none⟩ (.int .i64 0)) ht (fun k hk => ((Below.heap_setCell _ _ _ k (by simp only; omega)).trans (Below.heap_setCell _ _ _ k (by simp only; omega)))))
  have HB2 := hid ((HB.out.setCell (p := ⟨w.heap.size, 0, none⟩) hB (.int .i64 x)).setCell (p := ⟨w.heap.size + 1, 0, none⟩) (by simp only; omega) (.int .i64 0))
  have HS := hid (show w.heap.size ≤ ((w2.setCell ⟨w.heap.size, 0, none⟩ (.int .i64 x)).setCell ⟨w.heap.size + 1, 0, none⟩ (.int .i64 0)).heap.size from by have := hm.size; simp; omega)
  clear hm ht
  go_wp2_with fail
  generalize (w2.setCell ⟨w.heap.size, 0, none⟩ (.int .i64 x)).setCell ⟨w.heap.size + 1, 0, none⟩ (.int .i64 0) = w9 at *
  refine leaves_cons (f := 59) (args := #[.pointer (some ⟨w.heap.size + 1, 0, none⟩), .func (.func 160) #[] #[.pointer (some ⟨w.heap.size, 0, none⟩)]]) (by simp) (by simp [go_sem]) ?_
  refine (prcaught_idle ⟨w.heap.size + 1, 0, none⟩ _ _).mono ?_
  rintro e u' w'' ⟨rfl, rfl, rfl⟩
  refine ⟨_, ?_, rfl, HB2.out, HT.out, HS.out⟩
  have q1 := Q1.out
  have q2 := Q2.out
  simp [results, Tryz.results142, go_sem, q1, q2]
set_option maxRecDepth 100000 in
set_option maxHeartbeats 2000000 in
theorem prtold_err (w : World) (M : Nat) (C : Nat → List Int) (f : FuncId) (cap : Array Value) (hen : ∀ args w, (callFunc f args).run Tryz.prog w = .ok (.enter f args) w) (B : Nat) (hB : B ≤ w.heap.size) (T : World → Prop) (hT : LowT w.heap.size T) (n : Int) (hf : ∀ W, Below w.heap.size w W → Calls Tryz.prog f cap W (ClP B w.heap.size T W n)) (h : PrAt w M C) :
    Calls Tryz.prog 142 #[.pointer (some ⟨M, 0, none⟩), .func (.func f) #[] cap] w (TlR B T w 0 n) := by
  have hW := hid (show Below w.heap.size w ((w.alloc (.cells #[.int .i64 0] 3)).alloc (.cells #[.int .i64 0] 25)) from (below_new w _).alloc (by simp) _)
  have hb1 := hid (show Blk ((w.alloc (.cells #[.int .i64 0] 3)).alloc (.cells #[.int .i64 0] 25)) w.heap.size [.int .i64 0] 3 from (Blk.newAt rfl).alloc _)
  have hb2 := hid (show Blk ((w.alloc (.cells #[.int .i64 0] 3)).alloc (.cells #[.int .i64 0] 25)) (w.heap.size + 1) [.int .i64 0] 25 from Blk.newAt (by simp))
  have HN := hid (prno_any _ M C (h.low hW.out))
  have HF := hid (hf _ hW.out)
  have HEn := hid hen
  clear h hf hen
  have hWs : w.heap.size + 2 ≤ ((w.alloc (.cells #[.int .i64 0] 3)).alloc (.cells #[.int .i64 0] 25)).heap.size := by simp
  go_enter_defers Tryz.func142, Tryz.ntmps142
  go_wp2_with fail
  generalize (w.alloc (.cells #[.int .i64 0] 3)).alloc (.cells #[.int .i64 0] 25) = w1 at *
  refine HN.out.mono ?_
  rintro e w' ⟨rfl, rfl⟩
  have hen := HEn.out
  go_wp2_with fail
  refine HF.out.mono ?_
  rintro e w2 ⟨rfl, hm, ht⟩
  have HB := hid ((hW.out.mono hB).trans (hm.below (by have := hW.out.size; omega)))
  have H1 := hid (hm.blk hb1.out (.inr (Nat.le_refl _)))
  have H2 := hid (hm.blk hb2.out (.inr (by omega)))
  have c1 := H1.out.cell (k := 0) rfl
  have z1 := H1.out.frozen 0
  have c2 := (H2.out.other (a := ⟨w.heap.size, 0, none⟩) (.int .i64 0) (by simp)).cell (k := 0) rfl
  have z2 := (H2.out.other (a := ⟨w.heap.size, 0, none⟩) (.int .i64 0) (by simp)).frozen 0
  have Q1 := hid (((H1.out.set 0 (.int .i64 0)).other (a := ⟨w.heap.size + 1, 0, none⟩) (.int .i64 n) (by simp)).cell (k := 0) rfl)
  have Q2 := hid (((H2.out.other (a := ⟨w.heap.size, 0, none⟩) (.int .i64 0) (by simp)).set 0 (.int .i64 n)).cell (k := 0) rfl)
  have HT := hid (hT _ ((w2.setCell ⟨w.heap.size, 0, none⟩ (.int .i64 0)).setCell ⟨w.heap.size + 1, 0, none⟩ (.int .i64 n)) ht (fun k hk => ((Below.heap_setCell _ _ _ k (by simp only; omega)).trans (Below.heap_setCell _ _ _ k (by simp only; omega)))))
  have HB2 := hid ((HB.out.setCell (p := ⟨w.heap.size, 0, none⟩) hB (.int .i64 0)).setCell (p := ⟨w.heap.size + 1, 0, none⟩) (by simp only; omega) (.int .i64 n))
  have HS := hid (show w.heap.size ≤ ((w2.setCell ⟨w.heap.size, 0, none⟩ (.int .i64 0)).setCell ⟨w.heap.size + 1, 0, none⟩ (.int .i64 n)).heap.size from by have := hm.size; simp; omega)
  have HC1 := hid (prtold1_any ⟨w.heap.size, 0, none⟩ _ w2 c1 z1)
  have HC2 := hid (And.intro c2 z2)
  clear hm ht c1 z1 c2 z2
  go_wp2_with fail
  refine leaves_cons (f := 59) (args := #[.pointer (some ⟨w.heap.size + 1, 0, none⟩), .func (.func 160) #[] #[.pointer (some ⟨w.heap.size, 0, none⟩)]]) (by simp) (by simp [go_sem]) ?_
  refine (prcaught_err ⟨w.heap.size + 1, 0, none⟩ n 0 160 _ w2 _ (fun _ _ => by kernel_rfl) HC1.out HC2.out.1 HC2.out.2).mono ?_
  rintro e u' w'' ⟨rfl, rfl, rfl⟩
  refine ⟨_, ?_, rfl, HB2.out, HT.out, HS.out⟩
  have q1 := Q1.out
  have q2 := Q2.out
  generalize (w2.setCell ⟨w.heap.size, 0, none⟩ (.int .i64 0)).setCell ⟨w.heap.size + 1, 0, none⟩ (.int .i64 n) = w9 at *
  simp [results, Tryz.results142, go_sem, q1, q2]
set_option maxRecDepth 100000 in
theorem prll1_any (W : World) (M : Nat) (C : Nat → List Int) (h : PrAt W M C) (q0 q1 : Nat) (n : Int) 
    (hp : Blk W q0 [.pointer (some ⟨M, 0, none⟩)] 88) (hq1 : Blk W q1 [.int .i64 n] 3) :
    Calls Tryz.prog 158 #[.pointer (some ⟨q0, 0, none⟩), .pointer (some ⟨q1, 0, none⟩)] W (OrV W (numC C 1 n)) := by
  have c0 := hp.cell (k := 0) rfl
  have c1 := hq1.cell (k := 0) rfl
  have HI := hid (prcount_any W M C h n)
  clear h hp hq1
  cases ho : numC C 1 n with
  | some x =>
    rw [ho] at HI
    have HI : Hid (Calls Tryz.prog _ _ W (RetV W (.int .i64 x))) := HI
    clear ho
    show Calls Tryz.prog _ _ W (RetV W (.int .i64 x))
    go_enter Tryz.func158, Tryz.ntmps158
    go_wp2_with fail
    refine HI.out.mono ?_
    rintro e w1 ⟨rfl, hb⟩
    go_wp2
    go_ret
    exact ⟨rfl, hb⟩
  | none =>
    rw [ho] at HI
    have HI : Hid (Calls Tryz.prog _ _ W (PanV W 2)) := HI
    clear ho
    show Calls Tryz.prog _ _ W (PanV W 2)
    go_enter Tryz.func158, Tryz.ntmps158
    go_wp2_with fail
    refine HI.out.mono ?_
    rintro e w1 ⟨rfl, hb⟩
    go_wp2
    exact ⟨rfl, rfl, hb⟩
set_option maxRecDepth 100000 in
theorem prll_any (w : World) (M : Nat) (C : Nat → List Int) (h : PrAt w M C) (n : Int)  :
    Calls Tryz.prog 138 #[.pointer (some ⟨M, 0, none⟩), .int .i64 n] w (RetV w (match numC C 1 n with | some x => .tuple #[.int .i64 x, .int .i64 0] | none => .tuple #[.int .i64 0, .int .i64 2])) := by
  have hW := hid (show Below w.heap.size w ((w.alloc (.cells #[.pointer (some ⟨M, 0, none⟩)] 88)).alloc (.cells #[.int .i64 n] 3)) from (below_new w _).alloc (by simp) _)
  have hx0 := hid (show Blk ((w.alloc (.cells #[.pointer (some ⟨M, 0, none⟩)] 88)).alloc (.cells #[.int .i64 n] 3)) (w.heap.size) [.pointer (some ⟨M, 0, none⟩)] 88 from (Blk.newAt rfl).alloc _)
  have hx1 := hid (show Blk ((w.alloc (.cells #[.pointer (some ⟨M, 0, none⟩)] 88)).alloc (.cells #[.int .i64 n] 3)) (w.heap.size + 1) [.int .i64 n] 3 from Blk.newAt (by simp))
  have h1 := h.low hW.out
  have c0 := hx0.out.cell (k := 0) rfl
  have HCl := hid (fun W (hb : Below ((w.alloc (.cells #[.pointer (some ⟨M, 0, none⟩)] 88)).alloc (.cells #[.int .i64 n] 3)).heap.size ((w.alloc (.cells #[.pointer (some ⟨M, 0, none⟩)] 88)).alloc (.cells #[.int .i64 n] 3)) W) => prll1_any W M C (h1.low hb) (w.heap.size) (w.heap.size + 1) n  (hx0.out.below hb hx0.out.lt) (hx1.out.below hb hx1.out.lt))
  have HH := hid h1
  clear h h1
  cases ho : numC C 1 n with
  | some x =>
    rw [ho] at HCl
    have HT := hid (prtold_ok _ M C 158 #[.pointer (some ⟨w.heap.size, 0, none⟩), .pointer (some ⟨w.heap.size + 1, 0, none⟩)] (fun _ _ => by kernel_rfl) _ (Nat.le_refl _) (fun _ => True) (LowT.true _) x (fun W hb => (HCl.out W hb).mono fun e w' (hr : RetV W (.int .i64 x) e w') => ⟨hr.1, Mod.of_below hr.2, trivial⟩) HH.out)
    clear ho
    show Calls Tryz.prog _ _ w (RetV w (.tuple #[.int .i64 x, .int .i64 0]))
    go_enter Tryz.func138, Tryz.ntmps138
    go_wp2_with fail
    clear c0
    refine (HT.out.mono fun _ _ h => h.low).mono ?_
    rintro e w2 ⟨rfl, hb⟩
    have HB := hid (hW.out.trans (hb.mono hW.out.size))
    clear hb
    have c0 := HB.out
    go_wp2
    go_ret2
    exact ⟨rfl, HB.out⟩
  | none =>
    rw [ho] at HCl
    have HT := hid (prtold_err _ M C 158 #[.pointer (some ⟨w.heap.size, 0, none⟩), .pointer (some ⟨w.heap.size + 1, 0, none⟩)] (fun _ _ => by kernel_rfl) _ (Nat.le_refl _) (fun _ => True) (LowT.true _) 2 (fun W hb => (HCl.out W hb).mono fun e w' (hr : PanV W 2 e w') => ⟨hr.1, Mod.of_below hr.2, trivial⟩) HH.out)
    clear ho
    show Calls Tryz.prog _ _ w (RetV w (.tuple #[.int .i64 0, .int .i64 2]))
    go_enter Tryz.func138, Tryz.ntmps138
    go_wp2_with fail
    clear c0
    refine (HT.out.mono fun _ _ h => h.low).mono ?_
    rintro e w2 ⟨rfl, hb⟩
    have HB := hid (hW.out.trans (hb.mono hW.out.size))
    clear hb
    have c0 := HB.out
    go_wp2
    go_ret2
    exact ⟨rfl, HB.out⟩
set_option maxRecDepth 100000 in
theorem prma1_any (W : World) (M : Nat) (C : Nat → List Int) (h : PrAt W M C) (q0 q1 q2 : Nat) (n : Int) (off : Int) (hn0 : -9223372036854775808 ≤ n) (hn1 : n ≤ 9223372036854775807) (hn2 : -9223372036854775808 ≤ off) (hn3 : off ≤ 9223372036854775807)
    (hp : Blk W q0 [.pointer (some ⟨M, 0, none⟩)] 88) (hq1 : Blk W q1 [.int .i64 n] 3) (hq2 : Blk W q2 [.int .i64 off] 3) :
    Calls Tryz.prog 143 #[.pointer (some ⟨q0, 0, none⟩), .pointer (some ⟨q1, 0, none⟩), .pointer (some ⟨q2, 0, none⟩)] W (OrV W (stepC C n off)) := by
  have c0 := hp.cell (k := 0) rfl
  have c1 := hq1.cell (k := 0) rfl
  have c2 := hq2.cell (k := 0) rfl
  have HI := hid (prstep_any W M C h n off hn0 hn1 hn2 hn3)
  clear h hp hq1 hq2
  cases ho : stepC C n off with
  | some x =>
    rw [ho] at HI
    have HI : Hid (Calls Tryz.prog _ _ W (RetV W (.int .i64 x))) := HI
    clear ho
    show Calls Tryz.prog _ _ W (RetV W (.int .i64 x))
    go_enter Tryz.func143, Tryz.ntmps143
    go_wp2_with fail
    refine HI.out.mono ?_
    rintro e w1 ⟨rfl, hb⟩
    go_wp2
    go_ret
    exact ⟨rfl, hb⟩
  | none =>
    rw [ho] at HI
    have HI : Hid (Calls Tryz.prog _ _ W (PanV W 2)) := HI
    clear ho
    show Calls Tryz.prog _ _ W (PanV W 2)
    go_enter Tryz.func143, Tryz.ntmps143
    go_wp2_with fail
    refine HI.out.mono ?_
    rintro e w1 ⟨rfl, hb⟩
    go_wp2
    exact ⟨rfl, rfl, hb⟩
set_option maxRecDepth 100000 in
theorem prma_any (w : World) (M : Nat) (C : Nat → List Int) (h : PrAt w M C) (n : Int) (off : Int) (hn0 : -9223372036854775808 ≤ n) (hn1 : n ≤ 9223372036854775807) (hn2 : -9223372036854775808 ≤ off) (hn3 : off ≤ 9223372036854775807) :
    Calls Tryz.prog 112 #[.pointer (some ⟨M, 0, none⟩), .int .i64 n, .int .i64 off] w (RetV w (match stepC C n off with | some x => .tuple #[.int .i64 x, .int .i64 0] | none => .tuple #[.int .i64 0, .int .i64 2])) := by
  have hW := hid (show Below w.heap.size w (((w.alloc (.cells #[.pointer (some ⟨M, 0, none⟩)] 88)).alloc (.cells #[.int .i64 n] 3)).alloc (.cells #[.int .i64 off] 3)) from ((below_new w _).alloc (by simp) _).alloc (by simp; omega) _)
  have hx0 := hid (show Blk (((w.alloc (.cells #[.pointer (some ⟨M, 0, none⟩)] 88)).alloc (.cells #[.int .i64 n] 3)).alloc (.cells #[.int .i64 off] 3)) (w.heap.size) [.pointer (some ⟨M, 0, none⟩)] 88 from ((Blk.newAt rfl).alloc _).alloc _)
  have hx1 := hid (show Blk (((w.alloc (.cells #[.pointer (some ⟨M, 0, none⟩)] 88)).alloc (.cells #[.int .i64 n] 3)).alloc (.cells #[.int .i64 off] 3)) (w.heap.size + 1) [.int .i64 n] 3 from (Blk.newAt (by simp)).alloc _)
  have hx2 := hid (show Blk (((w.alloc (.cells #[.pointer (some ⟨M, 0, none⟩)] 88)).alloc (.cells #[.int .i64 n] 3)).alloc (.cells #[.int .i64 off] 3)) (w.heap.size + 1 + 1) [.int .i64 off] 3 from Blk.newAt (by simp))
  have h1 := h.low hW.out
  have c0 := hx0.out.cell (k := 0) rfl
  have HCl := hid (fun W (hb : Below (((w.alloc (.cells #[.pointer (some ⟨M, 0, none⟩)] 88)).alloc (.cells #[.int .i64 n] 3)).alloc (.cells #[.int .i64 off] 3)).heap.size (((w.alloc (.cells #[.pointer (some ⟨M, 0, none⟩)] 88)).alloc (.cells #[.int .i64 n] 3)).alloc (.cells #[.int .i64 off] 3)) W) => prma1_any W M C (h1.low hb) (w.heap.size) (w.heap.size + 1) (w.heap.size + 1 + 1) n off hn0 hn1 hn2 hn3 (hx0.out.below hb hx0.out.lt) (hx1.out.below hb hx1.out.lt) (hx2.out.below hb hx2.out.lt))
  have HH := hid h1
  clear h h1
  cases ho : stepC C n off with
  | some x =>
    rw [ho] at HCl
    have HT := hid (prtold_ok _ M C 143 #[.pointer (some ⟨w.heap.size, 0, none⟩), .pointer (some ⟨w.heap.size + 1, 0, none⟩), .pointer (some ⟨w.heap.size + 1 + 1, 0, none⟩)] (fun _ _ => by kernel_rfl) _ (Nat.le_refl _) (fun _ => True) (LowT.true _) x (fun W hb => (HCl.out W hb).mono fun e w' (hr : RetV W (.int .i64 x) e w') => ⟨hr.1, Mod.of_below hr.2, trivial⟩) HH.out)
    clear ho
    show Calls Tryz.prog _ _ w (RetV w (.tuple #[.int .i64 x, .int .i64 0]))
    go_enter Tryz.func112, Tryz.ntmps112
    go_wp2_with fail
    clear c0
    refine (HT.out.mono fun _ _ h => h.low).mono ?_
    rintro e w2 ⟨rfl, hb⟩
    have HB := hid (hW.out.trans (hb.mono hW.out.size))
    clear hb
    have c0 := HB.out
    go_wp2
    go_ret2
    exact ⟨rfl, HB.out⟩
  | none =>
    rw [ho] at HCl
    have HT := hid (prtold_err _ M C 143 #[.pointer (some ⟨w.heap.size, 0, none⟩), .pointer (some ⟨w.heap.size + 1, 0, none⟩), .pointer (some ⟨w.heap.size + 1 + 1, 0, none⟩)] (fun _ _ => by kernel_rfl) _ (Nat.le_refl _) (fun _ => True) (LowT.true _) 2 (fun W hb => (HCl.out W hb).mono fun e w' (hr : PanV W 2 e w') => ⟨hr.1, Mod.of_below hr.2, trivial⟩) HH.out)
    clear ho
    show Calls Tryz.prog _ _ w (RetV w (.tuple #[.int .i64 0, .int .i64 2]))
    go_enter Tryz.func112, Tryz.ntmps112
    go_wp2_with fail
    clear c0
    refine (HT.out.mono fun _ _ h => h.low).mono ?_
    rintro e w2 ⟨rfl, hb⟩
    have HB := hid (hW.out.trans (hb.mono hW.out.size))
    clear hb
    have c0 := HB.out
    go_wp2
    go_ret2
    exact ⟨rfl, HB.out⟩
end Go.Proofs.YtlgablepckmogaaGreat
namespace Go.Proofs.YtlgablepckmogaaGreat
open Go.RowKit Go.Port
theorem Tryz.zeros84 : Tryz.zeroCells169 = (zeros.map iv).toArray := by kernel_rfl
theorem bump_step (bs : List UInt8) (k : Nat) (x : UInt8) (hx : bs[k]? = some x) (h : List Int) : bumps h (bs.take (k + 1)) = bump (bumps h (bs.take k)) x := by
  have hlt : k < bs.length := (List.getElem?_eq_some_iff.1 hx).1
  have e : bs[k] = x := by simpa [hlt] using hx
  rw [List.take_succ_eq_append_getElem hlt, e, bumps_snoc]
theorem bump_set (h : List Int) (x : UInt8) (c : Int) (hc : h[x.toNat]? = some c) : (bump h x).map iv = (h.map iv).set x.toNat (.int .i64 (min 2147483648 (c + 1))) := by
  unfold bump
  rw [List.map_set, List.getD_eq_getElem?_getD, hc]
  rfl
set_option maxRecDepth 100000 in
set_option maxHeartbeats 800000 in
theorem hist_one (a0 : Addr) (c0 : Nat) (a : Option Addr) (n c : Nat) (bs : List UInt8) (w : World) (hn : bs.length = n) (hm : n ≤ maxLen) (h0 : w.cell? a0 = some (.slice a n c))
    (hc : ∀ j u, (bs.map bv)[j]? = some u → ∃ b off, a = some ⟨b, off, none⟩ ∧ b < w.heap.size ∧ w.cell? ⟨b, off + j, none⟩ = some u) :
    Calls Tryz.prog 61 #[.slice (some a0) 1 c0] w fun e w' => ∃ v, e = .returned v ∧ ∃ b, v = .slice (some ⟨b, 0, none⟩) 256 256 ∧ Blk w' b ((histS bs).map iv) 169 ∧ Below w.heap.size w w' := by
  have hlt0 : a0.block < w.heap.size := World.block_lt_of_cell? w a0 h0
  have HC := hid hc
  have hz := Tryz.zeros84
  have hx256 : ∀ x : UInt8, x.toNat < 256 := fun x => x.toNat_lt
  clear hc
  unfold maxLen at hm
  go_enter Tryz.func61, Tryz.ntmps61
  go_wp2
  go_loopw [10] (fun i wr => ∃ k : Nat, k ≤ 1 ∧ i = .int .i64 k ∧ Blk wr w.heap.size ((if k = 0 then zeros else histS bs).map iv) 169 ∧ Below w.heap.size w wr) (fun i _ => 1 - (intOf i).toNat)
  case atStart => exact ⟨0, by omega, rfl, Blk.new w _ _, below_new w _⟩
  case round =>
    obtain ⟨k, hk, rfl, hB, hb⟩ := hrel
    by_cases hlt : k < 1
    · obtain rfl : k = 0 := by omega
      rw [if_pos rfl] at hB
      have h0r := (hb.cell hlt0).trans h0
      go_wp2
      go_loopw [16] (fun i wr => ∃ k : Nat, k ≤ n ∧ i = .int .i64 k ∧ Blk wr w.heap.size ((bumps zeros (bs.take k)).map iv) 169 ∧ Below w.heap.size w wr) (fun i _ => n - (intOf i).toNat)
      case atStart => exact ⟨0, by omega, rfl, hB, hb⟩
      case round =>
        obtain ⟨k, hk, rfl, hB, hb⟩ := hrel
        by_cases hlt : k < n
        · obtain ⟨x, hx⟩ : ∃ x, bs[k]? = some x := ⟨bs[k]'(by omega), by simp [hn, hlt]⟩
          obtain ⟨b, off, rfl, hbl, hcell0⟩ := HC.out k (bv x) (by simp [hx])
          have hcell := (hb.cell (p := ⟨b, off + k, none⟩) hbl).trans hcell0
          have hx2 := hx256 x
          obtain ⟨q, hq⟩ : ∃ q, (bumps zeros (bs.take k))[x.toNat]? = some q := ⟨(bumps zeros (bs.take k))[x.toNat]'(by rw [bumps_length, zeros_length]; exact hx2), by rw [List.getElem?_eq_getElem]⟩
          have hqc := hB.cell (k := x.toNat) (u := .int .i64 q) (by rw [List.getElem?_map, hq]; rfl)
          have hqf := hB.frozen x.toNat
          have hcq := bumps_cnt zeros_cnt (bs.take k) q (List.mem_of_getElem? hq)
          unfold Cnt at hcq
          have HS := hid (bump_step bs k x hx zeros)
          have HSet := hid (bump_set _ x q hq)
          clear hx hcell0 hq
          unfold bv at hcell
          generalize hX : x.toNat = X at *
          go_wp2
          go_roundw
          case rel =>
            refine ⟨k + 1, by omega, by go_num, ?_, hb.setCell (Nat.le_refl _) _⟩
            have := hB.set X (.int .i64 (min 2147483648 (q + 1)))
            rw [HS.out, HSet.out]
            simpa only [Int.min_def] using this
          case measure => simp [intOf]; omega
        · obtain rfl : k = n := by omega
          go_wp2
          go_roundw
          case rel => exact ⟨1, by omega, by go_num, by rw [List.take_of_length_le (by omega)] at hB; rw [if_neg (by decide)]; exact hB, hb⟩
          case measure => simp [intOf]
    · obtain rfl : k = 1 := by omega
      go_wp2
      go_ret
      exact ⟨_, rfl, _, rfl, hB, hb⟩
end Go.Proofs.YtlgablepckmogaaGreat
