/-
  From a law's walk to its statement: what the arguments are in memory, and that they read behind the call as before.
  Finders made, for every seat that makes finders.
  The walk of the example of TopParses: a repetition is found.
  Plain laws of layer 33 (best): the candidate matches at an index.
  The walks of layer 5 (tally), first part (from XTally): bits.Len, log, total.
-/
import Derived.Test.YtlgablepckmogaaGreatRows
import Derived.Test.YtlgablepckmogaaGreatQ02
import Derived.Test.YtlgablepckmogaaGreatQ09
import Derived.Test.YtlgablepckmogaaGreatQ07
import Derived.Test.YtlgablepckmogaaGreatQ03
import Derived.Test.YtlgablepckmogaaGreatQ05
import Derived.Test.YtlgablepckmogaaGreatQ11
import Derived.Test.YtlgablepckmogaaGreatQ01
import Derived.Test.YtlgablepckmogaaGreatQ10
import Derived.Test.YtlgablepckmogaaGreatShelf
import Derived.ProofKit
import Derived.OpenShut
import Derived.ReadAgain
import Derived.ChangeOld
import Derived.Deep.RegionHeld3
import Derived.Lib.SlBytesConst
namespace Go.Port
open Go.RowKit Go.ChangeShapes Go.WideShapes
section
variable {H : Type} {enc : TypeId × Value → H} {P : Program} {W W' : World}
theorem trodAll_low : ∀ {ts : List TypeId} {vs : List Value} {ds : List (DataW H)} {ps : List MemPlace} {sp : Nat → Bool}, DataW.TrodAll enc P W 0 sp true ts vs ds ps → Below W.heap.size W W' → DataW.TrodAll enc P W' 0 sp true ts vs ds ps
  | [], [], [], _, _, h, _ => h
  | _ :: _, _ :: _, _ :: _, _, _, ⟨p, q, ⟨n, hn⟩, h2, e⟩, hb => ⟨p, q, ⟨n, DataW.trod_carry n _ _ _ hn (fun x hx => hb.same (DataW.trod_lt n _ _ _ hn x hx))⟩, trodAll_low h2 hb, e⟩
/-- A law's end: it has returned true, and what lay lies. -/
theorem law_post {T : TypeId → Prop} (K : Kids P T) (hz : ∀ t e, T t → P.underlying t = some (.slice e) → 0 < P.cellsOf e) {f : Func} {s : ChangeSpec} {t4 : TypeId} (h4 : P.underlying t4 = some .bool) (hr : f.resultTypes = #[t4]) (hv : s.vars = [])
    {args : Array Value} {ds : List (DataW H)} {before : List MemPlace} (hW : DataW.Whole enc P f.params.toList s.vars false W args.toList ds [] before) (hT : ∀ t ∈ f.params.toList, T t)
    (hs1 : (s.fn H (ds ++ [])).results = [.lit (.bool true)]) (hs2 : (s.fn H (ds ++ [])).args = ds) (hs3 : (s.fn H (ds ++ [])).vars = []) (hb : Below W.heap.size W W') :
    s.post enc P f false true false false W args (.bool true) W' := by
  have hW' := hW
  obtain ⟨p, q, hA, hV, rfl, _, _⟩ := hW
  rw [hv] at hV
  obtain rfl : q = [] := hV
  refine ⟨ds, [], _, [], p, [], hW', ?_, ?_, ?_, hb.frame _, fun h => by cases h⟩
  · rw [hs1, hr]
    exact trodAll_cons_mk (shut_bool h4 _) trodAll_mk0
  · rw [hs2]
    refine trodAll_low (DataW.TrodAll.respare K hz hT hA (fun x hx => ?_)) hb
    simpa using hW'.lt x (by simpa using hx)
  · rw [hs3, hv]
    rfl
/-- The value is a slice of n elements of sz cells each that reads as cs; where it is empty nothing is known of its address. -/
def Rs (w : World) (sz : Nat) (v : Value) (n : Nat) (cs : List Value) : Prop :=
  cs.length = n * sz ∧ ∃ a c, v = .slice a n c ∧ n ≤ c ∧ c ≤ maxLen ∧ (a = none → c = 0) ∧ ∀ j u, cs[j]? = some u → ∃ b off, a = some ⟨b, off, none⟩ ∧ b < w.heap.size ∧ w.cell? ⟨b, off + j, none⟩ = some u
theorem Rs.of_sl {w : World} {sz n : Nat} {v : Value} {cs : List Value} (h : Sl w sz v n cs) : Rs w sz v n cs := ⟨h.1, h.open⟩
theorem Rs.below {w w' : World} {sz n : Nat} {v : Value} {cs : List Value} (h : Rs w sz v n cs) (hb : Below w.heap.size w w') : Rs w' sz v n cs := by
  obtain ⟨h0, a, c, h1, h2, h3, h4, h5⟩ := h
  refine ⟨h0, a, c, h1, h2, h3, h4, fun j u hu => ?_⟩
  obtain ⟨b, off, k1, k2, k3⟩ := h5 j u hu
  exact ⟨b, off, k1, Nat.lt_of_lt_of_le k2 hb.size, (hb.cell (p := ⟨b, off + j, none⟩) k2).trans k3⟩
/-- A slice of integers of any kind, opened. -/
theorem open_row {k : IntKind} {t e : TypeId} (ht : P.underlying t = some (.slice e)) (he : P.underlying e = some (.int k)) (hc : P.cellsOf e = 1) {v : Value} {cs : List Value} {m : Nat} {x : DataW H × List MemPlace} (hcs : cs = [v])
    (hf : DataW.trod enc P W 0 (fun _ => true) true m t cs = some x) : ∃ l : List Int, Rs W 1 v l.length (l.map (Value.int k)) ∧ ∀ x ∈ l, (Lit.int k x).wf = true := by
  subst hcs
  rcases open_ints ht he hc hf with ⟨hcs, _⟩ | ⟨a', n, c, zs, hcs, _, hl, hm, hlen, _, hcell, hwf⟩
  · simp only [List.cons.injEq, and_true] at hcs
    subst hcs
    exact ⟨[], Rs.of_sl (Sl.nil W 1), fun x hx => by simp at hx⟩
  · simp only [List.cons.injEq, and_true] at hcs
    subst hcs
    simp only [if_true] at hlen
    have hln : (zs.take n).length = n := by rw [List.length_take]; omega
    refine ⟨zs.take n, ⟨by simp, some a', c, by rw [hln], by rw [hln]; exact hl, hm, (fun h => by cases h), fun j u hu => ?_⟩, fun x hx => hwf x (List.mem_of_mem_take hx)⟩
    rw [List.getElem?_map] at hu
    obtain ⟨x, hx, rfl⟩ := Option.map_eq_some_iff.1 hu
    have hj : j < n := by
      have := (List.getElem?_eq_some_iff.1 hx).1
      rwa [hln] at this
    obtain ⟨b, off, rfl, h⟩ := ints_at hcell (by omega)
    refine ⟨b, off, rfl, World.block_lt_of_cell? W _ (h 0 (by omega)), ?_⟩
    rw [h j (by omega)]
    rw [List.getElem?_take_of_lt hj] at hx
    simp [List.getD_eq_getElem?_getD, hx]
theorem open_rowV {k : IntKind} {t e : TypeId} (ht : P.underlying t = some (.slice e)) (he : P.underlying e = some (.int k)) (hc : P.cellsOf e = 1) {v : Value} {d : DataW H} {ps : List MemPlace} {b0 : Nat}
    (hv : Value.okWide P W .any b0 t v) (hd : DataW.Trod enc P W 0 (fun _ => true) true t v d ps) : ∃ l : List Int, Rs W 1 v l.length (l.map (Value.int k)) ∧ ∀ x ∈ l, (Lit.int k x).wf = true := by
  obtain ⟨a, n, c, rfl⟩ := okWide_slice ht hv
  obtain ⟨m, hf⟩ := hd
  exact open_row ht he hc rfl hf
theorem bytes_of {l : List Int} (h : ∀ x ∈ l, (Lit.int .u8 x).wf = true) : ∃ bs : List UInt8, l.map (Value.int .u8) = bs.map bv ∧ bs.length = l.length := by
  refine ⟨l.map fun x => UInt8.ofNat x.toNat, ?_, by simp⟩
  rw [List.map_map]
  refine List.map_congr_left fun x hx => ?_
  have := bounds_u8 (h x hx)
  simp only [bv, Function.comp_apply, UInt8.toNat_ofNat']
  congr 1
  omega
end
end Go.Port
namespace Go.Proofs.YtlgablepckmogaaGreat
open Go.RowKit Go.Port
theorem Tryz.own : ownKnob Tryz.prog.godebug = none := by kernel_rfl
theorem Tryz.kids : Kids Tryz.prog (· < Tryz.prog.types.size) := kids_rows (by kernel_rfl) (by kernel_rfl)
theorem Tryz.full : ∀ t e, t < Tryz.prog.types.size → Tryz.prog.underlying t = some (.slice e) → 0 < Tryz.prog.cellsOf e := slices_full_of Tryz.prog (by kernel_rfl)
end Go.Proofs.YtlgablepckmogaaGreat
namespace Go.Port
open Go.RowKit
theorem FdS.mono {B B' : Nat} {tf tix : TypeId} {bs : List UInt8} {A : Nat} {W D : Int} {F : Nat} {w : World} (h : FdS B tf tix bs A W D F w) (hB : B' ≤ B) : FdS B' tf tix bs A W D F w :=
  ⟨Nat.le_trans hB h.1, fun w' hs => h.2 w' fun k h1 h2 => hs k (Nat.le_trans hB h1) h2⟩
theorem CellsAt.of_const {w : World} {g : Nat} {bs : List UInt8} (hg : g < w.heap.size) (h : ∀ j u, (bs.map bv)[j]? = some u → w.cell? ⟨g, j, none⟩ = some u) : CellsAt w (some ⟨g, 0, none⟩) (bs.map bv) := fun j u hu => ⟨g, 0, rfl, hg, by rw [Nat.zero_add]; exact h j u hu⟩
end Go.Port
namespace Go.Port
open Go.RowKit
theorem finderOk_bounds {n : Nat} {W D : Int} (h : finderOk n W D = true) : (1 ≤ W ∧ W ≤ 134217728) ∧ (1 ≤ D ∧ D ≤ 4096) := by
  unfold finderOk at h
  simp only [Bool.and_eq_true, decide_eq_true_eq] at h
  omega
end Go.Port
namespace Go.Port
open Go.RowKit
/-- The example of layer 33's law. -/
def tv : List UInt8 := [97, 98, 99, 97, 98, 99, 97, 98, 99, 97, 98, 99]
theorem tv_a : seqs (fromL tv 0 100 8 0 3) = [⟨3, 9, 3⟩] := by decide +kernel
end Go.Port
namespace Go.Proofs.YtlgablepckmogaaGreat
open Go.RowKit Go.Port
theorem gparse_tv (w : World) (F : Nat) (h : FdAt 50 79 tv 0 100 8 F w) :
    Calls Tryz.prog 12 #[.pointer (some ⟨F, 0, none⟩)] w fun e w' => ∃ a c, e = .returned (.tuple #[.slice a 1 c, .int .i64 0]) ∧ CellsAt w' a (([⟨3, 9, 3⟩] : List Sq).flatMap sqc) ∧ Below w.heap.size w w' := by
  have := gparse_any tv 0 100 8 F w h
  rw [tv_a] at this
  refine this.mono ?_
  rintro e w' ⟨v, rfl, h1, h2⟩
  obtain ⟨a, c, rfl⟩ := own_slice h1
  exact ⟨a, c, rfl, (Sl.of_owns h1).cells' rfl, h2⟩
set_option maxRecDepth 100000 in
set_option maxHeartbeats 4000000 in
theorem alive33_any (w : World) : Calls Tryz.prog 4 #[] w (RetV w (.bool true)) := by
  have hcv := Lib.run_convert_bytes_const (P := Tryz.prog) w 22 5 #[.int .u8 97, .int .u8 98, .int .u8 99, .int .u8 97, .int .u8 98, .int .u8 99, .int .u8 97, .int .u8 98, .int .u8 99, .int .u8 97, .int .u8 98, .int .u8 99] 12 12 Tryz.underlying22 Tryz.underlying5
  have HG := hid (show CellsAt (w.alloc (.cells (tv.map bv).toArray 5 (12, 12 + 1))) (some ⟨w.heap.size, 0, none⟩) (tv.map bv) from CellsAt.of_const (by simp) (fun j u hu => by
    have h := World.alloc_heap_new w (.cells (tv.map bv).toArray 5 (12, 12 + 1))
    unfold World.cell?
    show (match (w.alloc (.cells (tv.map bv).toArray 5 (12, 12 + 1))).heap[w.heap.size]? with
      | some (.cells cs _ _) => cs[j]?
      | _ => none) = some u
    rw [h]
    simpa using hu))
  have HB0 := hid (below_new w (.cells (tv.map bv).toArray 5 (12, 12 + 1)))
  go_enter Tryz.func4, Tryz.ntmps4
  go_wp2_with fail
  refine (cnew_ok none (some ⟨w.heap.size, 0, none⟩) 0 12 [] tv 100 8 _ (by decide) (by decide) (by decide) (by decide) (by simp) (by simp) (fun j u hu => by simp at hu) HG.out (by decide) (by decide) (by decide) (by decide)).mono ?_
  rintro e w1 ⟨F, rfl, hF, hb⟩
  have HF1 := hid (show FdAt 50 79 tv 0 100 8 F w1 from hF.at)
  have HB1 := hid (HB0.out.trans (hb.mono HB0.out.size))
  clear hF hb HG HB0 hcv
  go_wp2_with fail
  refine (gparse_tv w1 F HF1.out).mono ?_
  rintro e w2 ⟨a1, c1, rfl, hc, hb⟩
  have HB2 := hid (HB1.out.trans (hb.mono HB1.out.size))
  obtain ⟨bl, off, rfl, hb0, c0⟩ := hc 0 _ rfl
  obtain ⟨_, _, e1, _, c1'⟩ := hc 1 _ rfl
  cases e1
  obtain ⟨_, _, e2, _, c2'⟩ := hc 2 _ rfl
  cases e2
  rw [Nat.add_zero] at c0
  clear hc hb hb0 HF1 HB1
  go_wp2
  go_ret
  exact ⟨rfl, HB2.out⟩
end Go.Proofs.YtlgablepckmogaaGreat
namespace Go.Port
open Go.RowKit
/-- Matches longer and longer, none shorter than lo. -/
def Rising : Int → List Sq → Prop
  | _, [] => True
  | lo, s :: r => lo ≤ s.len ∧ Rising (s.len + 1) r
theorem Rising.mono {lo lo' : Int} {l : List Sq} (h : Rising lo l) (hl : lo' ≤ lo) : Rising lo' l := by
  cases l with
  | nil => trivial
  | cons s r => exact ⟨by have := h.1; omega, h.2⟩
/-- The numbers from n on, k of them; the numbers from n to m. -/
def spanN : Int → Nat → List Int
  | _, 0 => []
  | n, k + 1 => n :: spanN (n + 1) k
def span (n m : Int) : List Int := spanN n (m + 1 - n).toNat
theorem spanN_length (n : Int) (k : Nat) : (spanN n k).length = k := by
  induction k generalizing n with
  | zero => rfl
  | succ k ih => simp [spanN, ih]
theorem spanN_app (n : Int) (a b : Nat) : spanN n (a + b) = spanN n a ++ spanN (n + a) b := by
  induction a generalizing n with
  | zero => simp [spanN]
  | succ a ih =>
    rw [show a + 1 + b = (a + b) + 1 from by omega]
    simp only [spanN, List.cons_append]
    rw [ih, show n + 1 + (a : Int) = n + ((a + 1 : Nat) : Int) from by omega]
theorem spanN_snoc (n : Int) (k : Nat) : spanN n (k + 1) = spanN n k ++ [n + k] := by
  rw [spanN_app]
  rfl
theorem span_mem {n m x : Int} (h : x ∈ span n m) : n ≤ x ∧ x ≤ m := by
  unfold span at h
  have : ∀ (k : Nat) (n x : Int), x ∈ spanN n k → n ≤ x ∧ x < n + k := by
    intro k
    induction k with
    | zero => intro n x h; simp [spanN] at h
    | succ k ih =>
      intro n x h
      simp only [spanN, List.mem_cons] at h
      rcases h with rfl | h
      · omega
      · have := ih _ _ h; omega
  have := this _ _ _ h
  omega
/-- The candidates of a list of matches, from the length n on. -/
def bGo : Int → List Sq → List Sq
  | _, [] => []
  | n, s :: r => (span n (min 64 s.len)).map (fun k => (⟨0, k, s.off⟩ : Sq)) ++ bGo (max n (min 64 s.len + 1)) r
def bN : Int → List Sq → Int
  | n, [] => n
  | n, s :: r => bN (max n (min 64 s.len + 1)) r
def bLast (l : List Sq) : Sq := l.getLastD ⟨0, 0, 0⟩
def bSteps (l : List Sq) : List Sq := bGo 3 l ++ (if 64 < (bLast l).len then [bLast l] else [])
theorem bGo_snoc (s : Sq) : ∀ (l : List Sq) (n : Int), bGo n (l ++ [s]) = bGo n l ++ (span (bN n l) (min 64 s.len)).map (fun k => (⟨0, k, s.off⟩ : Sq)) := by
  intro l
  induction l with
  | nil => intro n; simp [bGo, bN]
  | cons x r ih => intro n; simp only [List.cons_append, bGo, bN, ih, List.append_assoc]
theorem bN_snoc (s : Sq) : ∀ (l : List Sq) (n : Int), bN n (l ++ [s]) = max (bN n l) (min 64 s.len + 1) := by
  intro l
  induction l with
  | nil => intro n; rfl
  | cons x r ih => intro n; simp only [List.cons_append, bN, ih]
theorem bN_bounds : ∀ (l : List Sq) (n : Int), 3 ≤ n → n ≤ 65 → 3 ≤ bN n l ∧ bN n l ≤ 65 := by
  intro l
  induction l with
  | nil => intro n h1 h2; exact ⟨h1, h2⟩
  | cons x r ih => intro n h1 h2; exact ih _ (by omega) (by omega)
theorem bLast_snoc (l : List Sq) (s : Sq) : bLast (l ++ [s]) = s := by
  unfold bLast
  induction l with
  | nil => rfl
  | cons x r ih =>
    rw [List.cons_append, List.getLastD_cons]
    cases r with
    | nil => rfl
    | cons y t => rw [List.cons_append, List.getLastD_cons] at ih ⊢; exact ih
theorem bLast_cons2 (s t : Sq) (r : List Sq) : bLast (s :: t :: r) = bLast (t :: r) := by
  unfold bLast
  rw [List.getLastD_cons, List.getLastD_cons, List.getLastD_cons]
theorem bGo_length : ∀ (l : List Sq) (n : Int), 3 ≤ n → ((bGo n l).length : Int) ≤ 65 - min n 65 := by
  intro l
  induction l with
  | nil => intro n h; simp only [bGo, List.length_nil]; omega
  | cons s r ih =>
    intro n h
    have h1 := ih (max n (min 64 s.len + 1)) (by omega)
    have h2 : (span n (min 64 s.len)).length = (min 64 s.len + 1 - n).toNat := by unfold span; exact spanN_length _ _
    simp only [bGo, List.length_append, List.length_map, h2]
    omega
theorem bSteps_length (l : List Sq) : (bSteps l).length ≤ 63 := by
  have h := bGo_length l 3 (by omega)
  unfold bSteps
  rw [List.length_append]
  split <;> simp only [List.length_cons, List.length_nil] <;> omega
end Go.Port
namespace Go.Proofs.YtlgablepckmogaaGreat
open Go.RowKit Go.Port
theorem bitLen_log (n : Nat) (h : n ≠ 0) (h1 : n < 2 ^ 64) : Lib.bitLen n = Nat.log2 n + 1 := by
  have := Lib.bitLen_shift (Nat.log2 n) n (log2_lo h) h1
  rw [this]
  have h2 := log2_hi n
  rw [Nat.pow_succ] at h2
  have h3 := log2_lo h
  have e : n / 2 ^ Nat.log2 n = 1 := by
    have hp := Nat.two_pow_pos (Nat.log2 n)
    rw [Nat.div_eq_iff hp]
    omega
  rw [e]
  rfl
set_option maxHeartbeats 400000 in
theorem len_log (n : Int) (w : World) (h0 : 0 < n) (h1 : n < 4611686018427387904) :
    Calls Tryz.prog 115 #[.int .u64 n] w fun e w' => e = .returned (.int .i64 ((Nat.log2 n.toNat : Nat) + 1 : Int)) ∧ w = w' := by
  refine (Tryz.bits_Len n w (by omega) (by omega)).mono ?_
  rintro e w' ⟨he, hw⟩
  rw [bitLen_log n.toNat (by omega) (by omega)] at he
  exact ⟨by rw [he]; rfl, hw.symm⟩
theorem u64_nat (p : Nat) (h1 : p < 4611686018427387904) : IntKind.u64.wrap (p : Int) = p := by rw [IntKind.wrap_u64]; omega
theorem u64_sub (N p : Nat) (h1 : N < 4611686018427387904) (hlo : p ≤ N) : IntKind.u64.wrap ((N : Int) - p) = ((N - p : Nat) : Int) := by rw [IntKind.wrap_u64]; omega
theorem wrap_sum (d k : Nat) (hk : k < 62) (hd : d < 4611686018427387904) : wrap64 ((k : Int) * 256 + wrap64 (d : Int)) = (k : Int) * 256 + d := by
  simp only [wrap64]
  omega
theorem log_hi_aux (N k p q : Nat) (hk : k < 62) (h1 : N < 4611686018427387904) (hlo : p ≤ N) :
    wrap64 ((k : Int) * 256 + wrap64 (IntKind.u64.wrap ((N : Int) - IntKind.u64.wrap (p : Int)) / (q : Int))) = (k : Int) * 256 + (((N - p) / q : Nat) : Int) := by
  have hd := Nat.div_le_self (N - p) q
  rw [u64_nat p (by omega), u64_sub N p h1 hlo, ← Int.natCast_ediv]
  exact wrap_sum _ k hk (by omega)
theorem log_lo_aux (N k p q : Nat) (hk : k < 8) (h1 : N < 4611686018427387904) (hlo : p ≤ N) (hhi : N < p * 2) (hq : p * q = 256) :
    wrap64 ((k : Int) * 256 + wrap64 (IntKind.u64.wrap (IntKind.u64.wrap ((N : Int) - IntKind.u64.wrap (p : Int)) * (q : Int)))) = (k : Int) * 256 + (((N - p) * q : Nat) : Int) := by
  have hle : (N - p) * q ≤ p * q := Nat.mul_le_mul_right q (by omega)
  rw [hq] at hle
  rw [u64_nat p (by omega), u64_sub N p h1 hlo, ← Int.natCast_mul, u64_nat _ (Nat.lt_of_le_of_lt hle (by decide))]
  exact wrap_sum _ k (by omega) (Nat.lt_of_le_of_lt hle (by decide))
theorem two_pow_cast (k : Nat) : (2 : Int) ^ k = ((2 ^ k : Nat) : Int) := by simp
theorem log_hi_eq (n : Int) (k : Nat) (hk : k < 62) (h0 : 0 < n) (h1 : n < 4611686018427387904) (hlo : 2 ^ k ≤ n.toNat) :
    wrap64 ((k : Int) * 256 + wrap64 (IntKind.u64.wrap (n - IntKind.u64.wrap (2 ^ k)) / 2 ^ (k - 8))) = (k : Int) * 256 + (((n.toNat - 2 ^ k) / 2 ^ (k - 8) : Nat) : Int) := by
  have h := log_hi_aux n.toNat k (2 ^ k) (2 ^ (k - 8)) hk (by omega) hlo
  rw [Int.toNat_of_nonneg (Int.le_of_lt h0)] at h
  rw [two_pow_cast k, two_pow_cast (k - 8)]
  exact h
theorem log_lo_eq (n : Int) (k : Nat) (hk : k < 8) (h0 : 0 < n) (h1 : n < 4611686018427387904) (hlo : 2 ^ k ≤ n.toNat) (hhi : n.toNat < 2 ^ k * 2) :
    wrap64 ((k : Int) * 256 + wrap64 (IntKind.u64.wrap (IntKind.u64.wrap (n - IntKind.u64.wrap (2 ^ k)) * 2 ^ (8 - k)))) = (k : Int) * 256 + (((n.toNat - 2 ^ k) * 2 ^ (8 - k) : Nat) : Int) := by
  have h := log_lo_aux n.toNat k (2 ^ k) (2 ^ (8 - k)) hk (by omega) hlo hhi (by rw [← Nat.pow_add, show k + (8 - k) = 8 by omega])
  rw [Int.toNat_of_nonneg (Int.le_of_lt h0)] at h
  rw [two_pow_cast k, two_pow_cast (8 - k)]
  exact h
set_option maxHeartbeats 400000 in
theorem log_any (n : Int) (w : World) (h0 : 0 < n) (h1 : n < 4611686018427387904) :
    Calls Tryz.prog 157 #[.int .i64 n] w fun e w' => e = .returned (.int .i64 (lg n)) ∧ w = w' := by
  have hN : n.toNat ≠ 0 := by omega
  have hk : Nat.log2 n.toNat < 62 := by
    rw [Nat.log2_lt hN]
    show n.toNat < 4611686018427387904
    omega
  have hlo := log2_lo hN
  have hhi := log2_hi n.toNat
  rw [Nat.pow_succ] at hhi
  have hlen := len_log n w h0 h1
  have hlg : lg n = if 8 ≤ Nat.log2 n.toNat then (Nat.log2 n.toNat : Int) * 256 + (((n.toNat - 2 ^ Nat.log2 n.toNat) / 2 ^ (Nat.log2 n.toNat - 8) : Nat) : Int) else (Nat.log2 n.toNat : Int) * 256 + (((n.toNat - 2 ^ Nat.log2 n.toNat) * 2 ^ (8 - Nat.log2 n.toNat) : Nat) : Int) := by
    unfold lg logN
    split <;> omega
  generalize Nat.log2 n.toNat = k at *
  have HC := hid hlen
  clear hlen
  by_cases h8 : 8 ≤ k
  · rw [if_pos h8, ← log_hi_eq n k hk h0 h1 hlo] at hlg
    have HL := hid hlg
    clear hlg
    go_enter Tryz.func157, Tryz.ntmps157
    go_wp2_with (go_at_call 115; refine HC.out.mono ?_; rintro e w' ⟨rfl, rfl⟩)
    go_ret
    exact ⟨ret_i HL.out.symm, rfl⟩
  · rw [if_neg h8, ← log_lo_eq n k (by omega) h0 h1 hlo hhi] at hlg
    have HL := hid hlg
    clear hlg
    go_enter Tryz.func157, Tryz.ntmps157
    go_wp2_with (go_at_call 115; refine HC.out.mono ?_; rintro e w' ⟨rfl, rfl⟩)
    go_ret
    exact ⟨ret_i HL.out.symm, rfl⟩
set_option maxHeartbeats 400000 in
theorem total_any (a : Option Addr) (c : Nat) (l : List Int) (w : World) (hl : l.length ≤ 256) (hcnt : ∀ x ∈ l, Cnt x)
    (hc : ∀ j u, (l.map iv)[j]? = some u → ∃ b off, a = some ⟨b, off, none⟩ ∧ b < w.heap.size ∧ w.cell? ⟨b, off + j, none⟩ = some u) :
    Calls Tryz.prog 136 #[.slice a l.length c] w fun e w' => e = .returned (.int .i64 l.sum) ∧ w = w' := by
  have HC := hid hc
  have HN := hid hcnt
  clear hc hcnt
  go_enter Tryz.func136, Tryz.ntmps136
  go_wp2
  go_loop [2, 7] (fun n i => ∃ k : Nat, k ≤ l.length ∧ i = .int .i64 k ∧ n = .int .i64 (l.take k).sum) (fun _ i => l.length - (intOf i).toNat)
  case atStart => exact ⟨0, Nat.zero_le _, rfl, by simp⟩
  case round =>
    obtain ⟨k, hk, rfl, rfl⟩ := hrel
    by_cases hlt : k < l.length
    · obtain ⟨x, hx⟩ : ∃ x, l[k]? = some x := ⟨l[k], by simp [hlt]⟩
      obtain ⟨b, off, rfl, _, hcell⟩ := HC.out k (iv x) (by simp [hx])
      have hb := sum_bounds (l := l.take k) (fun y hy => HN.out y (List.mem_of_mem_take hy))
      have hxc := HN.out x (List.mem_of_getElem? hx)
      unfold Cnt at hxc
      have hlen : (l.take k).length ≤ 256 := by rw [List.length_take]; omega
      have hsum : (l.take (k + 1)).sum = (l.take k).sum + x := by
        rw [List.take_succ_eq_append_getElem hlt, List.sum_append]
        have : l[k] = x := by simpa [hlt] using hx
        simp [this]
      have HS := hid hsum
      clear hsum hx
      unfold iv at hcell
      go_wp2
      go_round
      case rel => exact ⟨k + 1, by omega, by go_num, by rw [HS.out]⟩
      case measure => simp [intOf]; omega
    · obtain rfl : k = l.length := by omega
      go_wp2
      go_ret
      exact ⟨by simp, rfl⟩
theorem Tryz.info_intN : (Tryz.prog.info? 3).map (fun i => (i.zero, i.size, i.bytes)) = some (some (.int .i64 0), 1, 8) := by kernel_rfl
end Go.Proofs.YtlgablepckmogaaGreat
