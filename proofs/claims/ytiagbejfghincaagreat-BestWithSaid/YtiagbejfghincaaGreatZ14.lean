/-
  (From XRef5 and XTally3.) The walks of the histogram of one part, and of the reference of layer 5: counts, the logarithm by doublings.
  The walks of layer 22 (plan): the steps of a plan, valid or not. (Parts as in XVerC.)
  The walks of layer 22 (plan): the steps of a plan that breaks a rule.
  The walks of layer 22 (plan): Literals.
-/
import Derived.Test.YtiagbejfghincaaGreatZ03
import Derived.Test.YtiagbejfghincaaGreatZ07
import Derived.Test.YtiagbejfghincaaGreatZ01
import Derived.Test.YtiagbejfghincaaGreatZ10
import Derived.Deep.OwnRows
import Derived.Laws.EntriesVeiled
import Derived.OneCell
import Derived.ScopeJumps
import Derived.Recover
import Derived.Defers
import Derived.Laws.Pointers
import Derived.Deep.LoopGhost
import Derived.Deep.DeepCutAuto
import Derived.LoopN
namespace Go.Proofs.YtiagbejfghincaaGreat
open Go.RowKit Go.Port
theorem dbls_bounds (p K m i : Nat) (hp : 0 < p) (hm : m < p) (hi : i ≤ 8) (hK : K < 62) : (dbls p i (K, m)).1 < 20000 ∧ (dbls p i (K, m)).2 < p := by
  rw [dbls_spec p K m hp hm]
  have h1 : 2 ^ i ≤ 2 ^ 8 := Nat.pow_le_pow_right (by decide) hi
  have h2 : m * 2 ^ i / p < 2 ^ i := by
    rw [Nat.div_lt_iff_lt_mul hp, Nat.mul_comm]
    exact Nat.mul_lt_mul_of_pos_left hm (Nat.two_pow_pos i)
  have h3 : K * 2 ^ i ≤ K * 2 ^ 8 := Nat.mul_le_mul_left K h1
  exact ⟨by dsimp only; omega, Nat.mod_lt _ hp⟩
theorem half_le (n p : Nat) (h : p ≤ n / 2) : p * 2 ≤ n := by omega
theorem half_gt (n p : Nat) (h : ¬ p ≤ n / 2) : n < p * 2 := by omega
set_option maxRecDepth 100000 in
set_option maxHeartbeats 800000 in
theorem rlog_any (n : Int) (w : World) (h0 : 0 < n) (h1 : n < 4611686018427387904) :
    Calls Tryz.prog 103 #[.int .i64 n] w fun e w' => e = .returned (.int .i64 (lg n)) ∧ w = w' := by
  obtain ⟨N, rfl⟩ : ∃ N : Nat, n = (N : Int) := ⟨n.toNat, by omega⟩
  have hN : N ≠ 0 := by omega
  have hk : Nat.log2 N < 62 := by
    rw [Nat.log2_lt hN]
    show N < 4611686018427387904
    omega
  have hlo := log2_lo hN
  have hhi := log2_hi N
  rw [Nat.pow_succ] at hhi
  have HL := hid (logN_dbls N hN)
  have HB := hid (fun i hi => dbls_bounds (2 ^ Nat.log2 N) (Nat.log2 N) (N - 2 ^ Nat.log2 N) i (Nat.two_pow_pos _) (by omega) hi hk)
  go_enter Tryz.func103, Tryz.ntmps103
  go_wp2
  go_loop [3, 4] (fun k p => ∃ K P : Nat, k = .int .i64 K ∧ p = .int .i64 P ∧ Hid (P = 2 ^ K) ∧ K < 62 ∧ P ≤ N) (fun _ p => N - (intOf p).toNat)
  case atStart => exact ⟨0, 1, rfl, rfl, hid rfl, by omega, by omega⟩
  case round =>
    obtain ⟨K, P, rfl, rfl, HP, hK, hPN⟩ := hrel
    have hP0 : 0 < P := by rw [HP.out]; exact Nat.two_pow_pos K
    by_cases hlt : P ≤ N / 2
    · have hh := half_le N P hlt
      have hK1 : K + 1 < 62 := by
        have h2 : 2 ^ (K + 1) ≤ N := by rw [Nat.pow_succ, ← HP.out]; exact hh
        have h3 : 2 ^ (K + 1) < 2 ^ 62 := Nat.lt_of_le_of_lt h2 (show N < 4611686018427387904 by omega)
        exact (Nat.pow_lt_pow_iff_right (by decide)).1 h3
      have t1 : decide ((P : Int) ≤ N / 2) = true := by simp; omega
      go_wp2
      go_round
      case rel => exact ⟨K + 1, 2 * P, by go_num, by go_num, hid (by rw [Nat.pow_succ, ← HP.out, Nat.mul_comm]), hK1, by omega⟩
      case measure => simp [intOf]; omega
    · have hh := half_gt N P hlt
      have t1 : decide ((P : Int) ≤ N / 2) = false := by simp; omega
      have hKe : K = Nat.log2 N := by
        have e := HP.out
        have a1 : 2 ^ K < 2 ^ (Nat.log2 N + 1) := by rw [← e, Nat.pow_succ]; omega
        have a2 : 2 ^ Nat.log2 N < 2 ^ (K + 1) := by rw [Nat.pow_succ, ← e]; omega
        have b1 := (Nat.pow_lt_pow_iff_right (a := 2) (by decide)).1 a1
        have b2 := (Nat.pow_lt_pow_iff_right (a := 2) (by decide)).1 a2
        omega
      have HL2 := hid (show (dbls P 8 (K, N - P)).1 = logN N from by rw [HP.out, hKe]; exact HL.out)
      have HB2 := hid (show ∀ i, i ≤ 8 → (dbls P i (K, N - P)).1 < 20000 ∧ (dbls P i (K, N - P)).2 < P from by rw [HP.out, hKe]; exact HB.out)
      have hz : (dbls P 0 (K, N - P)) = (K, N - P) := rfl
      have HKe := hid hKe
      clear hKe
      go_wp2
      go_loop [3, 5, 6] (fun k r i => ∃ (j : Nat) (x y : Int), j ≤ 8 ∧ i = .int .i64 j ∧ k = .int .i64 x ∧ r = .int .i64 y ∧ Hid (x = ((dbls P j (K, N - P)).1 : Nat) ∧ y = ((dbls P j (K, N - P)).2 : Nat))) (fun _ _ i => 8 - (intOf i).toNat)
      case atStart => exact ⟨0, K, (N : Int) - P, by omega, rfl, rfl, rfl, hid (by rw [hz]; omega)⟩
      case round =>
        obtain ⟨j, x, y, hj, rfl, rfl, rfl, HXY⟩ := hrel
        have HZ := hid hz
        clear hz
        by_cases hlt2 : j < 8
        · have hb := HB2.out j (by omega)
          have HD := hid (show dbls P (j + 1) (K, N - P) = dbl P (dbls P j (K, N - P)) from rfl)
          have hxy := HXY.out
          clear HXY
          generalize dbls P j (K, N - P) = D at *
          obtain ⟨D1, D2⟩ := D
          dsimp only at hb hxy
          by_cases hD : P - D2 ≤ D2
          · have HE := hid (show dbls P (j + 1) (K, N - P) = (2 * D1 + 1, D2 - (P - D2)) from by rw [HD.out, dbl, if_pos hD])
            have HV := hid (show 2 * x + 1 = ((2 * D1 + 1 : Nat) : Int) ∧ y - ((P : Int) - y) = ((D2 - (P - D2) : Nat) : Int) from by omega)
            have t2 : (P : Int) - y ≤ y := by omega
            have hx1 : 0 ≤ x ∧ x < 20000 := by omega
            have hy1 : 0 ≤ y ∧ y < P := by omega
            have t3 : (j : Int) < 8 := by omega
            have HJ := hid hlt2
            clear hxy hb hD hlt2 hj
            go_wp2
            go_round
            case rel => exact ⟨j + 1, _, _, HJ.out, by go_num, rfl, rfl, hid (by rw [HE.out]; exact HV.out)⟩
            case measure => simp [intOf]; omega
          · have HE := hid (show dbls P (j + 1) (K, N - P) = (2 * D1, 2 * D2) from by rw [HD.out, dbl, if_neg hD])
            have HV := hid (show 2 * x = ((2 * D1 : Nat) : Int) ∧ 2 * y = ((2 * D2 : Nat) : Int) from by omega)
            have t2 : ¬ (P : Int) - y ≤ y := by omega
            have hx1 : 0 ≤ x ∧ x < 20000 := by omega
            have hy1 : 0 ≤ y ∧ y < P := by omega
            have t3 : (j : Int) < 8 := by omega
            have HJ := hid hlt2
            clear hxy hb hD hlt2 hj
            go_wp2
            go_round
            case rel => exact ⟨j + 1, _, _, HJ.out, by go_num, rfl, rfl, hid (by rw [HE.out]; exact HV.out)⟩
            case measure => simp [intOf]; omega
        · obtain rfl : j = 8 := by omega
          go_wp2
          go_ret
          refine ⟨ret_i ?_, rfl⟩
          rw [HXY.out.1, HL2.out]
          rfl
end Go.Proofs.YtiagbejfghincaaGreat
namespace Go.Port
open Go.RowKit
/-- A sequence's cells, and as one value. -/
def lsqc (s : Sq) : List Value := [.int .i64 s.lit, .int .i64 s.len, .int .i64 s.off]
/-- Where a plan ends that starts at a. -/
def lend (a : Int) : List Sq → Int
  | [] => a
  | s :: r => lend (a + s.lit + s.len) r
theorem lend_snoc (l : List Sq) (x : Sq) : ∀ a, lend a (l ++ [x]) = lend a l + x.lit + x.len := by
  induction l with
  | nil => intro a; rfl
  | cons y r ih => intro a; exact ih _
/-- A step of a plan: the sequence, its number, where it begins, the data's size, what lies behind, the window. -/
structure LSt where
  s : Sq
  num : Int
  at' : Int
  size : Int
  hav : Int
  win : Int
/-- The sequence lies within the data. -/
structure LIn (x : LSt) : Prop where
  at0 : 0 ≤ x.at'
  lit : 0 ≤ x.s.lit
  len : 3 ≤ x.s.len
  fin : x.at' + x.s.lit + x.s.len ≤ x.size
  max : x.size ≤ 131072
end Go.Port
namespace Go.Proofs.YtiagbejfghincaaGreat
open Go.RowKit Go.Port
end Go.Proofs.YtiagbejfghincaaGreat
namespace Go.Port
open Go.RowKit
/-- A plan that breaks no rule. -/
def LPl (l : List Sq) : Prop := ∀ pre s rest, l = pre ++ s :: rest → LIn ⟨s, pre.length, lend 0 pre, 131072, 0, 0⟩
/-- Blocks below B lie as they lay, but one. -/
structure LKeep (B : Nat) (row : Option Nat) (W W' : World) : Prop where
  os : W'.os = W.os
  tape : W'.tape = W.tape
  output : W'.output = W.output
  size : W.heap.size ≤ W'.heap.size
  block : ∀ k, k < B → some k ≠ row → W'.heap[k]? = W.heap[k]?
theorem LKeep.refl (B : Nat) (row : Option Nat) (W : World) : LKeep B row W W := ⟨rfl, rfl, rfl, Nat.le_refl _, fun _ _ _ => rfl⟩
theorem LKeep.trans {B : Nat} {row : Option Nat} {W W1 W2 : World} (h : LKeep B row W W1) (k : LKeep B row W1 W2) : LKeep B row W W2 :=
  ⟨k.os.trans h.os, k.tape.trans h.tape, k.output.trans h.output, Nat.le_trans h.size k.size, fun j hj hr => (k.block j hj hr).trans (h.block j hj hr)⟩
theorem LKeep.of_below {B : Nat} {row : Option Nat} {W W1 : World} (h : Below B W W1) : LKeep B row W W1 := ⟨h.os, h.tape, h.output, h.size, fun k hk _ => h.block k hk⟩
theorem LKeep.mono {B B' : Nat} {row : Option Nat} {W W1 : World} (h : LKeep B row W W1) (hB : B' ≤ B) : LKeep B' row W W1 := ⟨h.os, h.tape, h.output, h.size, fun k hk hr => h.block k (Nat.lt_of_lt_of_le hk hB) hr⟩
theorem LKeep.set {B : Nat} {row : Option Nat} {W W1 : World} (h : LKeep B row W W1) (a : Addr) (u : Value) (ha : B ≤ a.block ∨ row = some a.block) : LKeep B row W (W1.setCell a u) :=
  ⟨h.os, h.tape, h.output, by simpa using h.size, fun k hk hr => (Below.heap_setCell W1 a u k (by
    intro e
    rcases ha with ha | ha
    · omega
    · exact hr (by rw [ha, e]))).trans (h.block k hk hr)⟩
theorem LKeep.blk {B : Nat} {row : Option Nat} {W W1 : World} (h : LKeep B row W W1) {b : Nat} {vs : List Value} {t : TypeId} (hb : Blk W b vs t) (hB : b < B) (hr : some b ≠ row) : Blk W1 b vs t := (h.block b hB hr).trans hb
/-- .. but one that lies from B' on. -/
theorem LKeep.below {B B' c : Nat} {W W1 : World} (h : LKeep B (some c) W W1) (hB : B' ≤ B) (hc : B' ≤ c) : Below B' W W1 := ⟨h.os, h.tape, h.output, h.size, fun k hk => h.block k (by omega) (fun e => by cases e; omega)⟩
end Go.Port
namespace Go.Proofs.YtiagbejfghincaaGreat
open Go.RowKit Go.Port
end Go.Proofs.YtiagbejfghincaaGreat
namespace Go.Port
open Go.RowKit
/-- The sequence lies within the greatest block, from a on. -/
def linB (s : Sq) (a : Int) : Bool := decide (0 ≤ s.lit) && decide (3 ≤ s.len) && decide (s.lit ≤ 131072 - a) && decide (s.len ≤ 131072 - (a + s.lit))
/-- Where a plan ends, if it is one. -/
def planEnd : Int → List Sq → Option Int
  | a, [] => some a
  | a, s :: r => if linB s a = true then planEnd (a + s.lit + s.len) r else none
theorem linB_in {s : Sq} {a : Int} (h : linB s a = true) : 0 ≤ s.lit ∧ 3 ≤ s.len ∧ a + s.lit + s.len ≤ 131072 := by
  unfold linB at h
  simp only [Bool.and_eq_true, decide_eq_true_eq] at h
  omega
theorem planEnd_some : ∀ (l : List Sq) (a n : Int), planEnd a l = some n → n = lend a l ∧ a ≤ n ∧ (l ≠ [] → n ≤ 131072) := by
  intro l
  induction l with
  | nil => intro a n h; simp only [planEnd, Option.some.injEq] at h; exact ⟨h.symm, by omega, fun h => absurd rfl h⟩
  | cons s r ih =>
    intro a n h
    unfold planEnd at h
    split at h
    · rename_i hb
      have h1 := linB_in hb
      obtain ⟨h2, h3, h4⟩ := ih _ _ h
      refine ⟨h2, by omega, fun _ => ?_⟩
      by_cases hr : r = []
      · subst hr
        simp only [planEnd, Option.some.injEq] at h
        omega
      · exact h4 hr
    · cases h
theorem lpl_of : ∀ (l : List Sq) (a n : Int), 0 ≤ a → planEnd a l = some n → ∀ pre s rest, l = pre ++ s :: rest → linB s (lend a pre) = true ∧ 0 ≤ lend a pre := by
  intro l
  induction l with
  | nil => intro a n _ _ pre s rest e; cases pre <;> cases e
  | cons x r ih =>
    intro a n ha h pre s rest e
    unfold planEnd at h
    split at h
    · rename_i hb
      have h1 := linB_in hb
      cases pre with
      | nil => cases e; exact ⟨hb, ha⟩
      | cons y pre =>
        cases e
        exact ih _ n (by omega) h pre s rest rfl
    · cases h
theorem LPl.of {l : List Sq} {n : Int} (h : planEnd 0 l = some n) : LPl l := fun pre s rest e => by
  obtain ⟨h1, h2⟩ := lpl_of l 0 n (Int.le_refl _) h pre s rest e
  obtain ⟨h3, h4, h5⟩ := linB_in h1
  exact ⟨h2, h3, h4, h5, Int.le_refl _⟩
end Go.Port
namespace Go.Proofs.YtiagbejfghincaaGreat
open Go.RowKit Go.Port
/-- It panics with this chain; what lay stays. -/
def PanQ (ch : List PanicEntry) (w : World) : Exit → Act → World → Prop
  | .panic c, a, w' => c = ch ∧ a.defers = [] ∧ Below w.heap.size w w'
  | _, _, _ => False
theorem PanQ.put {ch c : List PanicEntry} {w w' : World} {a : Act} {d : Option Tmp} {v : Value} (h : PanQ ch w (.panic c) (a.put d v) w') : PanQ ch w (.panic c) a w' := by
  cases d <;> exact h
end Go.Proofs.YtiagbejfghincaaGreat
namespace Go.Port
open Go.RowKit
/-- The literals of sequences from a on. -/
def litsGo (bs : List UInt8) : Int → List Sq → List UInt8
  | _, [] => []
  | a, s :: r => (bs.drop a.toNat).take s.lit.toNat ++ litsGo bs (a + s.lit + s.len) r
/-- The literals that a plan leaves. -/
def litsS (bs : List UInt8) (l : List Sq) : List UInt8 := litsGo bs 0 l ++ bs.drop (lend 0 l).toNat
theorem litsGo_snoc (bs : List UInt8) (x : Sq) : ∀ (l : List Sq) (a : Int), litsGo bs a (l ++ [x]) = litsGo bs a l ++ (bs.drop (lend a l).toNat).take x.lit.toNat := by
  intro l
  induction l with
  | nil => intro a; simp [litsGo, lend]
  | cons s r ih => intro a; simp only [List.cons_append, litsGo, ih, lend, List.append_assoc]
theorem planEnd_pre : ∀ (p q : List Sq) (a n : Int), planEnd a (p ++ q) = some n → planEnd a p = some (lend a p) := by
  intro p
  induction p with
  | nil => intro q a n _; rfl
  | cons s r ih =>
    intro q a n h
    rw [List.cons_append] at h
    unfold planEnd at h ⊢
    split at h
    · rename_i hb
      rw [if_pos hb]
      exact ih q _ n h
    · cases h
theorem litsGo_len (bs : List UInt8) : ∀ (l : List Sq) (a n : Int), planEnd a l = some n → ((litsGo bs a l).length : Int) ≤ n - a := by
  intro l
  induction l with
  | nil => intro a n h; simp only [planEnd, Option.some.injEq] at h; subst h; simp [litsGo]
  | cons s r ih =>
    intro a n h
    unfold planEnd at h
    split at h
    · rename_i hb
      have h1 := linB_in hb
      have h2 := ih _ n h
      simp only [litsGo, List.length_append, List.length_take]
      omega
    · cases h
theorem litsS_len {bs : List UInt8} {l : List Sq} {n : Int} (h : planEnd 0 l = some n) (hn : n ≤ bs.length) : (litsS bs l).length ≤ bs.length := by
  have h1 := litsGo_len bs l 0 n h
  obtain ⟨h2, h3, _⟩ := planEnd_some l 0 n h
  unfold litsS
  rw [List.length_append, List.length_drop, ← h2]
  omega
/-- The sequence k of a plan lies within the data. -/
theorem plan_at {bs : List UInt8} {l : List Sq} {n : Int} (h : planEnd 0 l = some n) (hn : n ≤ bs.length) {k : Nat} {s : Sq} (hk : l[k]? = some s) : ∃ P T : Nat, lend 0 (l.take k) = (P : Int) ∧ s.lit = (T : Int) ∧ P + T ≤ bs.length := by
  obtain ⟨hlt, e⟩ := List.getElem?_eq_some_iff.1 hk
  have e2 : l = l.take k ++ s :: l.drop (k + 1) := by rw [← e, ← List.drop_eq_getElem_cons hlt, List.take_append_drop]
  obtain ⟨h1, h2⟩ := lpl_of l 0 n (Int.le_refl _) h (l.take k) s _ e2
  obtain ⟨h3, h4, h5⟩ := linB_in h1
  have h6 : planEnd 0 (l.take k ++ [s]) = some (lend 0 (l.take k ++ [s])) := by
    refine planEnd_pre (l.take k ++ [s]) (l.drop (k + 1)) 0 n ?_
    rw [List.append_assoc]
    show planEnd 0 (l.take k ++ s :: l.drop (k + 1)) = some n
    rw [← e2]; exact h
  have h7 : lend 0 (l.take k ++ [s]) ≤ n := by
    have h8 : planEnd (lend 0 (l.take k ++ [s])) (l.drop (k + 1)) = some n := by
      have : ∀ (p q : List Sq) (a : Int), planEnd a (p ++ q) = some n → planEnd (lend a p) q = some n := by
        intro p
        induction p with
        | nil => intro q a h; exact h
        | cons x r ih =>
          intro q a h
          rw [List.cons_append] at h
          unfold planEnd at h
          split at h
          · exact ih q _ h
          · cases h
      refine this _ _ 0 ?_
      rw [List.append_assoc]
      show planEnd 0 (l.take k ++ s :: l.drop (k + 1)) = some n
      rw [← e2]; exact h
    exact (planEnd_some _ _ _ h8).2.1
  rw [lend_snoc] at h7
  exact ⟨(lend 0 (l.take k)).toNat, s.lit.toNat, by omega, by omega, by omega⟩
theorem Cs.part {w : World} {b o : Nat} {bs : List UInt8} (h : Cs w (some ⟨b, o, none⟩) (bs.map bv)) (P T : Nat) : Cs w (some ⟨b, o + P, none⟩) (((bs.drop P).take T).map bv) := by
  intro j u hu
  rw [List.getElem?_map, List.getElem?_take] at hu
  split at hu
  · rw [List.getElem?_drop] at hu
    obtain ⟨b2, o2, e1, e2, e3⟩ := h (P + j) u (by rw [List.getElem?_map]; exact hu)
    cases e1
    exact ⟨b, o + P, rfl, e2, by rw [Nat.add_assoc]; exact e3⟩
  · cases hu
end Go.Port
namespace Go.Proofs.YtiagbejfghincaaGreat
open Go.RowKit Go.Port
theorem Tryz.info_u8 : (Tryz.prog.info? 5).map (fun i => (i.zero, i.size, i.bytes)) = some (some (.int .u8 0), 1, 1) := by kernel_rfl
/-- Literals, for any plan. -/
def plitsO (bs : List UInt8) (l : List Sq) : Bool := match planEnd 0 l with
  | some n => decide (n ≤ (bs.length : Int))
  | none => false
end Go.Proofs.YtiagbejfghincaaGreat
