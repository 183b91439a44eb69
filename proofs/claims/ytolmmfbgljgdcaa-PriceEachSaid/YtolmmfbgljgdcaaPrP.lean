/-
  Cuts of slices and a copy into an array, for the stage's theorem of layer 32.
-/
import Derived.Test.YtolmmfbgljgdcaaPrX
import Derived.Test.YtolmmfbgljgdcaaPrO
import Derived.Laws.CopyRow
import Derived.Laws.CopyOwn
namespace Go.Port
open Go.RowKit
theorem run_cut {P : Program} {t e : TypeId} {i : TypeInfo} (ht : P.underlying t = some (.slice e)) (hi : P.info? e = some i) (ad : Option Addr) (n c : Nat) (low high : Option Value) (l h : Nat)
    (hb : ∀ W, (Instr.sliceBounds true n c low high none).run P W = .ok (l, h, c) W) (W : World) :
    (Instr.slice t (.slice ad n c) low high none).run P W = .ok (.slice (if c = l then ad else ad.map (·.add (l * i.size))) (h - l) (c - l)) W := by
  simp [Instr.slice, run_underlying ht, hb, sizeOf, typeInfo, hi]
theorem run_cutAt {P : Program} {t e : TypeId} {i : TypeInfo} (ht : P.underlying t = some (.slice e)) (hi : P.info? e = some i) (ad : Option Addr) (n c : Nat) (low high : Option Value) (l h : Nat)
    (hb : ∀ W, (Instr.sliceBounds true n c low high none).run P W = .ok (l, h, c) W) (W : World) :
    (Instr.sliceAt t (.slice ad n c) low high none).run P W = .ok (.slice (if c = l then ad else ad.map (·.add (l * i.size))) (h - l) (c - l)) W := by
  rw [← run_cut ht hi ad n c low high l h hb W]
  simp [Instr.sliceAt, run_underlying ht]
theorem bounds_hi {P : Program} (n c h : Nat) (hh : h ≤ c) (W : World) : (Instr.sliceBounds true n c none (some (.int .i64 (h : Int))) none).run P W = .ok (0, h, c) W := by
  simp [Instr.sliceBounds, Instr.sliceBound, asIntOf]
  intro h2
  omega
theorem bounds_lo {P : Program} (n c l : Nat) (hl : l ≤ n) (W : World) : (Instr.sliceBounds true n c (some (.int .i64 (l : Int))) none none).run P W = .ok (l, n, c) W := by
  simp [Instr.sliceBounds, Instr.sliceBound, asIntOf]
  intro h2
  omega
/-- The address of a cut. -/
def cutA (ad : Option Addr) (c l sz : Nat) : Option Addr := if c = l then ad else ad.map (·.add (l * sz))
theorem cutA_none {ad : Option Addr} {c l sz : Nat} (had : ad = none → c = 0) (h : cutA ad c l sz = none) : c - l = 0 := by
  unfold cutA at h
  split at h
  · omega
  · cases ad with
    | none => have := had rfl; omega
    | some a => cases h
end Go.Port
namespace Go.Proofs.Ytolmmfbgljgdcaa
open Go.RowKit Go.Port
theorem cutA_cs {W : World} {ad : Option Addr} {cs : List Value} (h : Cs W ad cs) (c l sz : Nat) (hc : cs.length ≤ c * sz) (m : Nat) : Cs W (cutA ad c l sz) ((cs.drop (l * sz)).take m) := by
  intro j u hu
  rw [List.getElem?_take] at hu
  split at hu
  · rw [List.getElem?_drop] at hu
    obtain ⟨b, o, e, h1, h2⟩ := h _ _ hu
    have hj := (List.getElem?_eq_some_iff.1 hu).1
    subst e
    unfold cutA
    have hne : ¬ c = l := by rintro rfl; omega
    rw [if_neg hne]
    refine ⟨b, o + l * sz, by rw [Option.map_some, Go.WideShapes.add_plain], h1, ?_⟩
    rw [Nat.add_assoc]
    exact h2
  · cases hu
theorem lsqc_drop (l : List Sq) (k : Nat) : (l.flatMap lsqc).drop (k * 3) = (l.drop k).flatMap lsqc := by
  induction l generalizing k with
  | nil => simp
  | cons s r ih =>
    cases k with
    | zero => simp
    | succ k =>
      rw [List.flatMap_cons, List.drop_succ_cons, ← ih k, show (k + 1) * 3 = 3 + k * 3 from by omega, ← List.drop_drop]
      rfl
theorem lsqc_take (l : List Sq) (k : Nat) : (l.flatMap lsqc).take (k * 3) = (l.take k).flatMap lsqc := by
  induction l generalizing k with
  | nil => simp
  | cons s r ih =>
    cases k with
    | zero => simp
    | succ k =>
      rw [List.flatMap_cons, List.take_succ_cons, List.flatMap_cons, ← ih k, show (k + 1) * 3 = (lsqc s).length + k * 3 from by simp only [lsqc, List.length_cons, List.length_nil]; omega, List.take_length_add_append]
theorem PdAt.front {w : World} {a : Option Addr} {cl : Nat} {l : List Sq} {ad : Option Addr} {c : Nat} {bs : List UInt8} (h : PdAt w a cl l ad c bs) (k P : Nat) : PdAt w (cutA a cl 0 3) cl (l.take k) (cutA ad c 0 1) c (bs.take P) := by
  have hb := h.hLc
  have hl := h.hlc
  have h1 := cutA_cs h.cells cl 0 3 (by rw [lsqc_length]; omega) (k * 3)
  have h2 := cutA_cs h.data c 0 1 (by rw [List.length_map]; omega) P
  rw [Nat.zero_mul, List.drop_zero, lsqc_take] at h1
  rw [Nat.zero_mul, List.drop_zero, ← List.map_take] at h2
  refine ⟨by have := h.hl; rw [List.length_take]; omega, by rw [List.length_take]; omega, h1, ⟨by have := h.hcm; rw [List.length_take]; omega, h.hcm.2⟩, by rw [List.length_take]; omega, fun e => ?_, h2, by have := h.small; rw [List.length_take]; omega⟩
  have := cutA_none h.had e
  omega
theorem PdAt.back {w : World} {a : Option Addr} {cl : Nat} {l : List Sq} {ad : Option Addr} {c : Nat} {bs : List UInt8} (h : PdAt w a cl l ad c bs) (k P : Nat) (hP : P ≤ bs.length) (hk : k ≤ l.length) : PdAt w (cutA a cl k 3) (cl - k) (l.drop k) (cutA ad c P 1) (c - P) (bs.drop P) := by
  have hb := h.hLc
  have hl := h.hlc
  have h1 := cutA_cs h.cells cl k 3 (by rw [lsqc_length]; omega) ((l.drop k).flatMap lsqc).length
  have h2 := cutA_cs h.data c P 1 (by rw [List.length_map]; omega) (bs.drop P).length
  rw [lsqc_drop, List.take_length] at h1
  rw [Nat.mul_one, ← List.map_drop, List.take_of_length_le (by simp)] at h2
  refine ⟨by have := h.hl; rw [List.length_drop]; omega, by rw [List.length_drop]; omega, h1, ⟨by have := h.hcm; rw [List.length_drop]; omega, by have := h.hcm; omega⟩, by rw [List.length_drop]; omega, fun e => cutA_none h.had e, h2, by have := h.small; rw [List.length_drop]; omega⟩
theorem copy_two (B g : Nat) (a : Option Addr) (c : Nat) (l : List Int) (W : World) (hl : l.length ≤ 256) (hac : a = none → c = 0) (hlc : l.length ≤ c) (hb : Blk W g (zeros.map iv) 54) (hc : Cs W a (l.map iv)) (hBg : B ≤ g) :
    ∃ W' vs, (Builtin.copy_ #[22, 22] 3 #[.slice (some ⟨g, 0, none⟩) 256 256, .slice a l.length c]).run Try.prog W = .ok (.int .i64 (l.length : Nat)) W' ∧ Blk W' g vs 54 ∧ (∀ s, s < 256 → vs[s]? = some (iv (l.getD s 0))) ∧ Below B W W' := by
  have hz : (zeros.map iv).length = 256 := by rw [List.length_map]; unfold zeros; rw [List.length_replicate]
  cases a with
  | none =>
    have hc0 := hac rfl
    subst hc0
    obtain rfl : l = [] := List.eq_nil_of_length_eq_zero (by omega)
    refine ⟨W, zeros.map iv, run_copy_nil (P := Try.prog) W 22 22 3 3 ⟨g, 0, none⟩ 256 256 Try.underlying22 (by kernel_rfl), hb, fun s hs => ?_, Below.refl _ _⟩
    rw [List.getElem?_map, zeros, List.getElem?_replicate, if_pos hs]
    rfl
  | some x =>
    have hr := run_copy_row (P := Try.prog) W 22 22 3 3 g 0 256 256 x l.length c (zeros.map iv).toArray 54 (l.map iv) Try.underlying22 (by kernel_rfl) hb
      (by rw [List.length_map]; exact (Nat.min_eq_left hl).symm) (fun j v hj => by
        obtain ⟨b, o, e, _, h2⟩ := hc j v hj
        cases e
        rw [Go.WideShapes.add_plain]
        exact h2) (by rw [List.length_map, List.size_toArray, hz]; omega) (fun v hv => by obtain ⟨y, _, rfl⟩ := List.mem_map.1 hv; rfl)
    refine ⟨_, l.map iv ++ (zeros.map iv).drop l.length, ?_, ?_, fun s hs => ?_, below_setRow (Below.refl B W) hBg ((zeros.map iv).take 0 ++ l.map iv ++ (zeros.map iv).drop (0 + (l.map iv).length)).toArray⟩
    · rw [hr, List.length_map]
      rfl
    · have h := setRow_heap W g (zeros.map iv).toArray ((zeros.map iv).take 0 ++ l.map iv ++ (zeros.map iv).drop (0 + (l.map iv).length)).toArray 54 (0, 0) hb
      rw [List.take_zero, List.nil_append, Nat.zero_add, List.length_map] at h
      rw [List.take_zero, List.nil_append, Nat.zero_add, List.length_map]
      exact h
    · rw [List.getElem?_append]
      split
      · rename_i h
        rw [List.length_map] at h
        rw [List.getElem?_map, List.getD_eq_getElem?_getD, List.getElem?_eq_getElem h]
        rfl
      · rename_i h
        rw [List.length_map] at h ⊢
        rw [List.getElem?_drop, List.getElem?_map, zeros, List.getElem?_replicate, if_pos (by omega), List.getD_eq_getElem?_getD, List.getElem?_eq_none (by omega)]
        rfl
theorem info_size {P : Program} {e : TypeId} {n : Nat} (h : (P.info? e).map (·.size) = some n) : ∃ i, P.info? e = some i ∧ i.size = n := by
  cases e' : P.info? e with
  | none => rw [e'] at h; cases h
  | some i => rw [e'] at h; exact ⟨i, rfl, by simpa using h⟩
theorem cut_u8_hi (ad : Option Addr) (n c h : Nat) (hh : h ≤ c) (W : World) : (Instr.slice 24 (.slice ad n c) none (some (.int .i64 (h : Int))) none).run Try.prog W = .ok (.slice (cutA ad c 0 1) h c) W := by
  obtain ⟨i, h1, h2⟩ := info_size (P := Try.prog) (e := 5) (n := 1) (by kernel_rfl)
  have := run_cut Try.underlying24 h1 ad n c none (some (.int .i64 (h : Int))) 0 h (bounds_hi n c h hh) W
  rw [h2] at this
  exact this
theorem cut_u8_hiAt (ad : Option Addr) (n c h : Nat) (hh : h ≤ c) (W : World) : (Instr.sliceAt 24 (.slice ad n c) none (some (.int .i64 (h : Int))) none).run Try.prog W = .ok (.slice (cutA ad c 0 1) h c) W := by
  obtain ⟨i, h1, h2⟩ := info_size (P := Try.prog) (e := 5) (n := 1) (by kernel_rfl)
  have := run_cutAt Try.underlying24 h1 ad n c none (some (.int .i64 (h : Int))) 0 h (bounds_hi n c h hh) W
  rw [h2] at this
  exact this
theorem cut_u8_lo (ad : Option Addr) (n c h : Nat) (hh : h ≤ n) (W : World) : (Instr.slice 24 (.slice ad n c) (some (.int .i64 (h : Int))) none none).run Try.prog W = .ok (.slice (cutA ad c h 1) (n - h) (c - h)) W := by
  obtain ⟨i, h1, h2⟩ := info_size (P := Try.prog) (e := 5) (n := 1) (by kernel_rfl)
  have := run_cut Try.underlying24 h1 ad n c (some (.int .i64 (h : Int))) none h n (bounds_lo n c h hh) W
  rw [h2] at this
  exact this
theorem cut_u8_loAt (ad : Option Addr) (n c h : Nat) (hh : h ≤ n) (W : World) : (Instr.sliceAt 24 (.slice ad n c) (some (.int .i64 (h : Int))) none none).run Try.prog W = .ok (.slice (cutA ad c h 1) (n - h) (c - h)) W := by
  obtain ⟨i, h1, h2⟩ := info_size (P := Try.prog) (e := 5) (n := 1) (by kernel_rfl)
  have := run_cutAt Try.underlying24 h1 ad n c (some (.int .i64 (h : Int))) none h n (bounds_lo n c h hh) W
  rw [h2] at this
  exact this
theorem cut_sq_hi (ad : Option Addr) (n c h : Nat) (hh : h ≤ c) (W : World) : (Instr.slice 46 (.slice ad n c) none (some (.int .i64 (h : Int))) none).run Try.prog W = .ok (.slice (cutA ad c 0 3) h c) W := by
  obtain ⟨i, h1, h2⟩ := info_size (P := Try.prog) (e := 57) (n := 3) (by kernel_rfl)
  have := run_cut Try.underlying46 h1 ad n c none (some (.int .i64 (h : Int))) 0 h (bounds_hi n c h hh) W
  rw [h2] at this
  exact this
theorem cut_sq_hiAt (ad : Option Addr) (n c h : Nat) (hh : h ≤ c) (W : World) : (Instr.sliceAt 46 (.slice ad n c) none (some (.int .i64 (h : Int))) none).run Try.prog W = .ok (.slice (cutA ad c 0 3) h c) W := by
  obtain ⟨i, h1, h2⟩ := info_size (P := Try.prog) (e := 57) (n := 3) (by kernel_rfl)
  have := run_cutAt Try.underlying46 h1 ad n c none (some (.int .i64 (h : Int))) 0 h (bounds_hi n c h hh) W
  rw [h2] at this
  exact this
theorem cut_sq_lo (ad : Option Addr) (n c h : Nat) (hh : h ≤ n) (W : World) : (Instr.slice 46 (.slice ad n c) (some (.int .i64 (h : Int))) none none).run Try.prog W = .ok (.slice (cutA ad c h 3) (n - h) (c - h)) W := by
  obtain ⟨i, h1, h2⟩ := info_size (P := Try.prog) (e := 57) (n := 3) (by kernel_rfl)
  have := run_cut Try.underlying46 h1 ad n c (some (.int .i64 (h : Int))) none h n (bounds_lo n c h hh) W
  rw [h2] at this
  exact this
theorem cut_sq_loAt (ad : Option Addr) (n c h : Nat) (hh : h ≤ n) (W : World) : (Instr.sliceAt 46 (.slice ad n c) (some (.int .i64 (h : Int))) none none).run Try.prog W = .ok (.slice (cutA ad c h 3) (n - h) (c - h)) W := by
  obtain ⟨i, h1, h2⟩ := info_size (P := Try.prog) (e := 57) (n := 3) (by kernel_rfl)
  have := run_cutAt Try.underlying46 h1 ad n c (some (.int .i64 (h : Int))) none h n (bounds_lo n c h hh) W
  rw [h2] at this
  exact this
theorem stepsGo_bounds {C : Nat → List Int} (h : ∀ k, k < 4 → HistOk k (C k)) : ∀ (l : List Sq) (n m : Int), stepsGo C n l = some m → n - 65536 * l.length ≤ m ∧ m ≤ n + 65536 * l.length := by
  intro l
  induction l with
  | nil => intro n m e; cases e; simp
  | cons s r ih =>
    intro n m e
    have e : (match stepC C s.len s.off with | some x => stepsGo C (n + x) r | none => none) = some m := e
    cases hx : stepC C s.len s.off with
    | none => rw [hx] at e; cases e
    | some x =>
      rw [hx] at e
      have h1 := ih _ _ e
      have h2 := stepC_bounds h hx
      rw [List.length_cons]
      omega
theorem planO_bounds {C : Nat → List Int} (h : ∀ k, k < 4 → HistOk k (C k)) {bs : List UInt8} {l : List Sq} {X : Int} (e : planO C bs l = some X) (hp : plitsO bs l = true) (hb : bs.length ≤ 300) (hl : l.length ≤ 40) : -100000000 ≤ X ∧ X ≤ 100000000 := by
  have h1 := stepsGo_bounds h _ _ _ e
  have h2 := lits_bounds (h 0 (by decide)) (litsS bs l)
  unfold plitsO at hp
  cases e2 : planEnd 0 l with
  | none => rw [e2] at hp; cases hp
  | some n =>
    rw [e2] at hp
    have := litsS_len e2 (by simpa using hp)
    omega
end Go.Proofs.Ytolmmfbgljgdcaa
