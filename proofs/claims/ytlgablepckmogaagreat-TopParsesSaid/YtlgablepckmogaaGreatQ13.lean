/-
  The walks of layer 5 (tally), second part (from XTally2): the check of any row, Total, Log2.
  The walks of layer 32 (price), first part: must, caught, log, none, rows.at.
  Plain laws of layer 20 (code): codes of numbers and of offsets, their first values and extra bits. No program in sight.
  Plain laws of layer 32 (price): what a symbol pcosts. No program in sight. And: a row that is lengthened by zeros.
-/
import Derived.Test.YtlgablepckmogaaGreatQ12
import Derived.Test.YtlgablepckmogaaGreatQ10
import Derived.Test.YtlgablepckmogaaGreatQ02
import Derived.Recover
import Derived.Defers
import Derived.Laws.Pointers
import Derived.Laws.EntriesVeiled
import Derived.Lib.AppendZerosOnto
namespace Go.Proofs.YtlgablepckmogaaGreat
open Go.RowKit Go.Port
theorem field_list (a : Option Addr) (n c : Nat) (w : World) : (Instr.field 220 (.agg #[.slice a n c]) 0).run Tryz.prog w = .ok (.slice a n c) w := by
  kernel_rfl
theorem right1_any (n : Int) (w : World) (h : Cnt n) :
    Calls Tryz.prog 156 #[.int .i64 n] w fun e w' => e = .returned (.bool false) ∧ w = w' := by
  obtain ⟨h0, h1⟩ := h
  have t1 : decide (n < 0) = false := by simp; omega
  have t2 : decide (2147483648 < n) = false := by simp; omega
  go_enter Tryz.func156, Tryz.ntmps156
  go_wp2
  go_ret
  exact ⟨rfl, rfl⟩
set_option maxHeartbeats 400000 in
theorem index_any (a : Option Addr) (c : Nat) (l : List Int) (w : World) (hl : l.length ≤ 256) (hcnt : ∀ x ∈ l, Cnt x)
    (hc : ∀ j u, (l.map iv)[j]? = some u → ∃ b off, a = some ⟨b, off, none⟩ ∧ b < w.heap.size ∧ w.cell? ⟨b, off + j, none⟩ = some u) :
    Calls Tryz.prog 172 #[.slice a l.length c, .func (.func 156) #[] #[]] w fun e w' => e = .returned (.int .i64 (-1)) ∧ w = w' := by
  have HC := hid hc
  have HN := hid hcnt
  clear hc hcnt
  go_enter Tryz.func172, Tryz.ntmps172
  go_wp2
  go_loop [8] (fun i => ∃ k : Nat, k ≤ l.length ∧ i = .int .i64 k) (fun i => l.length - (intOf i).toNat)
  case atStart => exact ⟨0, Nat.zero_le _, rfl⟩
  case round =>
    obtain ⟨k, hk, rfl⟩ := hrel
    by_cases hlt : k < l.length
    · obtain ⟨x, hx⟩ : ∃ x, l[k]? = some x := ⟨l[k], by simp [hlt]⟩
      obtain ⟨b, off, rfl, _, hcell⟩ := HC.out k (iv x) (by simp [hx])
      have HX := hid (HN.out x (List.mem_of_getElem? hx))
      clear hx
      unfold iv at hcell
      go_wp2_with (go_at_call 156; refine (right1_any _ _ HX.out).mono ?_; rintro e w' ⟨rfl, rfl⟩)
      go_round
      case rel => exact ⟨k + 1, by omega, by go_num⟩
      case measure => simp [intOf]; omega
    · obtain rfl : k = l.length := by omega
      go_wp2
      go_ret
      exact ⟨rfl, rfl⟩
set_option maxHeartbeats 400000 in
theorem contains_any (a : Option Addr) (c : Nat) (l : List Int) (w : World) (hl : l.length ≤ 256) (hcnt : ∀ x ∈ l, Cnt x)
    (hc : ∀ j u, (l.map iv)[j]? = some u → ∃ b off, a = some ⟨b, off, none⟩ ∧ b < w.heap.size ∧ w.cell? ⟨b, off + j, none⟩ = some u) :
    Calls Tryz.prog 155 #[.slice a l.length c, .func (.func 156) #[] #[]] w fun e w' => e = .returned (.bool false) ∧ w = w' := by
  have HC := hid (index_any a c l w hl hcnt hc)
  clear hc hcnt
  go_enter Tryz.func155, Tryz.ntmps155
  go_wp2_with (go_at_call 172; refine HC.out.mono ?_; rintro e w' ⟨rfl, rfl⟩)
  go_ret
  exact ⟨rfl, rfl⟩
set_option maxHeartbeats 400000 in
theorem right_any (a : Option Addr) (c : Nat) (l : List Int) (w : World) (hl : l.length ≤ 256) (hcnt : ∀ x ∈ l, Cnt x)
    (hc : ∀ j u, (l.map iv)[j]? = some u → ∃ b off, a = some ⟨b, off, none⟩ ∧ b < w.heap.size ∧ w.cell? ⟨b, off + j, none⟩ = some u) :
    Calls Tryz.prog 133 #[.slice a l.length c] w fun e w' => e = .returned (.bool true) ∧ w = w' := by
  have HC := hid (contains_any a c l w hl hcnt hc)
  clear hc hcnt
  have t1 : decide ((l.length : Int) ≤ 256) = true := by simp; omega
  go_enter Tryz.func133, Tryz.ntmps133
  go_wp2_with (go_at_call 155; refine HC.out.mono ?_; rintro e w' ⟨rfl, rfl⟩)
  go_ret
  exact ⟨rfl, rfl⟩
set_option maxRecDepth 100000 in
set_option maxHeartbeats 400000 in
theorem tcheck_any (a : Option Addr) (c : Nat) (l : List Int) (w : World) (hl : l.length ≤ 256) (hcnt : ∀ x ∈ l, Cnt x)
    (hc : ∀ j u, (l.map iv)[j]? = some u → ∃ b off, a = some ⟨b, off, none⟩ ∧ b < w.heap.size ∧ w.cell? ⟨b, off + j, none⟩ = some u) :
    Calls Tryz.prog 104 #[.slice a l.length c] w fun e w' => e = .returned (.int .i64 0) ∧ w = w' := by
  have HC := hid (right_any a c l w hl hcnt hc)
  have hfd := field_list a l.length c
  clear hc hcnt
  go_enter Tryz.func104, Tryz.ntmps104
  go_wp2_with (go_at_call 133; refine HC.out.mono ?_; rintro e w' ⟨rfl, rfl⟩)
  go_ret
  exact ⟨rfl, rfl⟩
set_option maxRecDepth 100000 in
theorem tlog_any (n : Int) (w : World) (h0 : 0 < n) (h1 : n < 4611686018427387904) :
    Calls Tryz.prog 137 #[.int .i64 n] w fun e w' => e = .returned (.tuple #[.int .i64 (lg n), .int .i64 0]) ∧ w = w' := by
  have HL := hid (log_any n w h0 h1)
  have t1 : ¬ n < 1 := by omega
  have t2 : ¬ 4611686018427387903 < n := by omega
  clear h0 h1
  go_enter Tryz.func137, Tryz.ntmps137
  go_wp2_with (go_at_call 157; refine HL.out.mono ?_; rintro e w' ⟨rfl, rfl⟩)
  refine bodyPost_ret (v := .tuple #[.int .i64 (lg n), .int .i64 0]) (by simp [results, Tryz.results137, go_sem]) rfl ?_
  exact ⟨rfl, rfl⟩
end Go.Proofs.YtlgablepckmogaaGreat
namespace Go.Proofs.YtlgablepckmogaaGreat
open Go.RowKit Go.Port
set_option maxRecDepth 100000 in
theorem prmust_ok (b : Nat) (w : World) (h : w.cell? ⟨b, 0, none⟩ = some (.int .i64 0)) :
    Calls Tryz.prog 86 #[.slice (some ⟨b, 0, none⟩) 1 1] w fun e w' => e = .returned (.tuple #[]) ∧ w = w' := by
  go_enter Tryz.func86, Tryz.ntmps86
  go_wp2
  go_loopw [6] (fun i wr => (i = .int .i64 0 ∨ i = .int .i64 1) ∧ wr = w) (fun i _ => 1 - (intOf i).toNat)
  case atStart => exact ⟨.inl rfl, rfl⟩
  case round =>
    obtain ⟨hi, rfl⟩ := hrel
    rcases hi with rfl | rfl
    · go_wp2
      go_roundw
      case rel => exact ⟨.inr rfl, trivial⟩
      case measure => simp [intOf]
    · go_wp2
      go_end0
      exact ⟨rfl, rfl⟩
set_option maxRecDepth 100000 in
theorem prmust_bad (b : Nat) (n : Int) (w : World) (h : w.cell? ⟨b, 0, none⟩ = some (.int .i64 n)) (hn : ¬ n = 0) :
    Calls Tryz.prog 86 #[.slice (some ⟨b, 0, none⟩) 1 1] w fun e w' => e = .panicked [{ v := .iface 25 (.int .i64 n), recovered := false }] ∧ w = w' := by
  go_enter Tryz.func86, Tryz.ntmps86
  go_wp2
  go_loopw [6] (fun i wr => i = .int .i64 0 ∧ wr = w) (fun i _ => 1 - (intOf i).toNat)
  case atStart => exact ⟨rfl, rfl⟩
  case round =>
    obtain ⟨rfl, rfl⟩ := hrel
    go_wp2
    exact ⟨rfl, rfl, rfl⟩
set_option maxRecDepth 100000 in
theorem prlog_any (n : Int) (w : World) (h0 : 0 < n) (h1 : n < 4611686018427387904) :
    Calls Tryz.prog 107 #[.int .i64 n] w (RetV w (.int .i64 (lg n))) := by
  have HL := hid (tlog_any n w h0 h1)
  have HB := hid (below_new w (.cells #[.int .i64 0] 25))
  have HM := hid (prmust_ok w.heap.size (w.alloc (.cells #[.int .i64 0] 25)) ((Blk.new w [.int .i64 0] 25).cell (k := 0) rfl))
  clear h0 h1
  go_enter Tryz.func107, Tryz.ntmps107
  go_wp2_with fail
  refine HL.out.mono ?_
  rintro e w' ⟨rfl, rfl⟩
  go_wp2_with fail
  refine HM.out.mono ?_
  rintro e w' ⟨rfl, rfl⟩
  go_wp2
  go_ret
  exact ⟨rfl, HB.out⟩
theorem priface_nil (w : World) : (binOp BinOp.neq 20 .nilIface .nilIface).run Tryz.prog w = .ok (.bool false) w := by kernel_rfl
theorem priface_err (n : Int) (w : World) : (binOp BinOp.neq 20 (.iface 25 (.int .i64 n)) .nilIface).run Tryz.prog w = .ok (.bool true) w := by kernel_rfl
theorem priface_is (n : Int) (w : World) : (Instr.typeAssert (.iface 25 (.int .i64 n)) 20 25 true).run Tryz.prog w = .ok (.tuple #[.int .i64 n, .bool true]) w := by kernel_rfl
set_option maxRecDepth 100000 in
set_option maxHeartbeats 400000 in
theorem prcaught_idle (p : Addr) (v : Value) (w : World) :
    CallsD Tryz.prog 59 #[.pointer (some p), v] .returning w fun e u' w' => e = .returned (.tuple #[]) ∧ u' = .returning ∧ w' = w := by
  have hnil := priface_nil
  refine callsD_of_wpS Tryz.func59 rfl fun c₀ cs hu => ?_
  simp only [Tryz.ntmps59, List.size_toArray, List.length_cons, List.length_nil, Nat.reduceAdd, Nat.reduceSub, Array.replicate_succ,
     Array.replicate_zero, List.push_toArray, List.append_toArray, List.nil_append, List.cons_append]
  apply wpS_seq
  apply wpS_region
  generalize hQ : (Exit.thenS _ _ : Exit → Act → List Frame → World → Prop) = Q
  simp [wpOpsS, go_sem, recoverD, hu]
  subst hQ
  dsimp only [Exit.thenS]
  refine wpS_of_wp ?_
  go_wp2
  exact ⟨rfl, .returning, by cases c₀; simp_all, .tuple #[], results_none rfl _ _ _, rfl, rfl, rfl⟩
set_option maxRecDepth 100000 in
set_option maxHeartbeats 400000 in
/-- caught behind a panic of the number n: the closure that clears is called, then the error is stored. -/
theorem prcaught_err (p : Addr) (n x : Int) (f : FuncId) (cap : Array Value) (w w1 : World) (hen : ∀ args w, (callFunc f args).run Tryz.prog w = .ok (.enter f args) w) (hf : Calls Tryz.prog f cap w fun e w' => e = .returned (.tuple #[]) ∧ w1 = w') (hc : w1.cell? p = some (.int .i64 x)) (hz : w1.frozen? p = false) :
    CallsD Tryz.prog 59 #[.pointer (some p), .func (.func f) #[] cap] (.panicking [{ v := .iface 25 (.int .i64 n), recovered := false }]) w fun e u' w' =>
      e = .returned (.tuple #[]) ∧ u' = .panicking [{ v := .iface 25 (.int .i64 n), recovered := true }] ∧ w' = w1.setCell p (.int .i64 n) := by
  have herr := priface_err n
  have hta := priface_is n
  refine callsD_of_wpS Tryz.func59 rfl fun c₀ cs hu => ?_
  simp only [Tryz.ntmps59, List.size_toArray, List.length_cons, List.length_nil, Nat.reduceAdd, Nat.reduceSub, Array.replicate_succ,
     Array.replicate_zero, List.push_toArray, List.append_toArray, List.nil_append, List.cons_append]
  apply wpS_seq
  apply wpS_region
  generalize hQ : (Exit.thenS _ _ : Exit → Act → List Frame → World → Prop) = Q
  simp [wpOpsS, go_sem, recoverD, hu]
  subst hQ
  dsimp only [Exit.thenS]
  refine wpS_of_wp ?_
  go_wp2_with fail
  refine hf.mono ?_
  rintro e w' ⟨rfl, rfl⟩
  go_wp2
  exact ⟨rfl, _, by cases c₀; simp_all, .tuple #[], results_none rfl _ _ _, rfl, rfl, rfl⟩
end Go.Proofs.YtlgablepckmogaaGreat
namespace Go.Port
def ebits (off : Bool) (c : Nat) : Nat := if off then c else if c < 16 then 0 else c / 2 - 5
def efirst (off : Bool) (c : Nat) : Nat := if off then 2 ^ c else if c < 16 then c else (2 + c % 2) * 2 ^ (c / 2 - 5)
def ecode (off : Bool) (v : Nat) : Nat := if off then Nat.log2 v else if v < 16 then v else 8 + 2 * Nat.log2 v + v / 2 ^ (Nat.log2 v - 1) % 2
def ecodes (off : Bool) : Nat := if off then 28 else 44
def ebelow (off : Bool) : Nat := if off then 268435456 else 262144
def eleast (off : Bool) : Nat := if off then 1 else 0
theorem ecode_spec {off : Bool} {v : Nat} (h0 : eleast off ≤ v) (h1 : v < ebelow off) : ecode off v < ecodes off ∧ efirst off (ecode off v) ≤ v ∧ v < efirst off (ecode off v + 1) := by
  cases off with
  | true =>
    unfold eleast ebelow at *
    unfold ecode ecodes efirst
    simp only [if_true] at *
    have hv : v ≠ 0 := by omega
    refine ⟨(Nat.log2_lt hv).2 (by omega), log2_lo hv, log2_hi v⟩
  | false =>
    unfold eleast ebelow at *
    unfold ecode ecodes
    simp only [Bool.false_eq_true, if_false] at *
    by_cases hs : v < 16
    · rw [if_pos hs]
      refine ⟨by omega, ?_, ?_⟩
      · unfold efirst; simp only [Bool.false_eq_true, if_false]; rw [if_pos hs]; exact Nat.le_refl _
      · unfold efirst
        simp only [Bool.false_eq_true, if_false]
        split
        · omega
        · obtain rfl : v = 15 := by omega
          decide
    · rw [if_neg hs]
      have hv : v ≠ 0 := by omega
      have hk1 : 4 ≤ Nat.log2 v := (Nat.le_log2 hv).2 (by omega)
      have hk2 : Nat.log2 v < 18 := (Nat.log2_lt hv).2 (by omega)
      have lo := log2_lo hv
      have hi := log2_hi v
      generalize Nat.log2 v = k at *
      obtain ⟨m, rfl⟩ : ∃ m, k = m + 1 := ⟨k - 1, by omega⟩
      rw [Nat.add_sub_cancel] at *
      have hp : 0 < 2 ^ m := Nat.two_pow_pos m
      have e1 : 2 ^ (m + 1) = 2 ^ m * 2 := Nat.pow_succ ..
      have e2 : 2 ^ (m + 1 + 1) = 2 ^ m * 4 := by rw [Nat.pow_succ, e1]; omega
      rw [e1] at lo
      rw [e2] at hi
      have hq1 : 2 ≤ v / 2 ^ m := (Nat.le_div_iff_mul_le hp).2 (by omega)
      have hq2 : v / 2 ^ m < 4 := (Nat.div_lt_iff_lt_mul hp).2 (by omega)
      have hd := Nat.div_add_mod v (2 ^ m)
      have hr := Nat.mod_lt v hp
      have hF : ∀ b, b < 2 → efirst false (8 + 2 * (m + 1) + b) = (2 + b) * 2 ^ m := fun b hb => by
        unfold efirst
        simp only [Bool.false_eq_true, if_false]
        rw [if_neg (by omega), show (8 + 2 * (m + 1) + b) % 2 = b by omega, show (8 + 2 * (m + 1) + b) / 2 - 5 = m by omega]
      have hF2 : efirst false (8 + 2 * (m + 1) + 2) = 4 * 2 ^ m := by
        unfold efirst
        simp only [Bool.false_eq_true, if_false]
        rw [if_neg (by omega), show (8 + 2 * (m + 1) + 2) % 2 = 0 by omega, show (8 + 2 * (m + 1) + 2) / 2 - 5 = m + 1 by omega, e1]
        omega
      generalize 2 ^ m = X at *
      have hc : v / X = 2 ∨ v / X = 3 := by omega
      rcases hc with hc | hc
      · rw [hc] at hd ⊢
        refine ⟨by omega, ?_, ?_⟩
        · rw [hF (2 % 2) (by omega)]; omega
        · rw [show 8 + 2 * (m + 1) + 2 % 2 + 1 = 8 + 2 * (m + 1) + 1 by omega, hF 1 (by omega)]; omega
      · rw [hc] at hd ⊢
        refine ⟨by omega, ?_, ?_⟩
        · rw [hF (3 % 2) (by omega)]; omega
        · rw [show 8 + 2 * (m + 1) + 3 % 2 + 1 = 8 + 2 * (m + 1) + 2 by omega, hF2]; omega
end Go.Port
namespace Go.Port
open Go.RowKit
/-- How many symbols the histogram k has. -/
def symN (k : Nat) : Nat := if k = 0 then 256 else if k = 2 then 28 else 44
/-- The extra bits of a symbol. -/
def sbits (k s : Nat) : Nat := if k = 0 then 0 else ebits (decide (k = 2)) s
/-- A histogram of the kind k. -/
def HistOk (k : Nat) (c : List Int) : Prop := c.length ≤ symN k ∧ ∀ x ∈ c, Cnt x
instance (x : Int) : Decidable (Cnt x) := by unfold Cnt; exact inferInstance
instance (k : Nat) (c : List Int) : Decidable (HistOk k c) := by unfold HistOk; exact inferInstance
/-- What a symbol pcosts. -/
def psym (k : Nat) (c : List Int) (s : Nat) : Int := lg (c.sum + symN k) - lg (c.getD s 0 + 1)
/-- .. and its extra bits. -/
def pcost (k : Nat) (c : List Int) (s : Nat) : Int := psym k c s + 256 * (sbits k s : Nat)
def pcosts (k : Nat) (c : List Int) : List Int := (List.range (symN k)).map (pcost k c)
theorem pcosts_at {k s : Nat} (c : List Int) (h : s < symN k) : (pcosts k c)[s]? = some (pcost k c s) := by
  unfold pcosts
  rw [List.getElem?_map, List.getElem?_range h]
  rfl
theorem symN_le (k : Nat) : symN k ≤ 256 ∧ 28 ≤ symN k := by unfold symN; split <;> (try split) <;> omega
theorem sum_cnt : ∀ {l : List Int}, (∀ x ∈ l, Cnt x) → 0 ≤ l.sum ∧ l.sum ≤ l.length * 2147483648 := by
  intro l
  induction l with
  | nil => intro _; simp
  | cons y r ih =>
    intro h
    have h1 := ih (fun x hx => h x (by simp [hx]))
    have h2 := h y (by simp)
    unfold Cnt at h2
    rw [List.sum_cons, List.length_cons]
    omega
theorem sum_hist {k : Nat} {c : List Int} (h : HistOk k c) : 0 ≤ c.sum ∧ c.sum ≤ 549755813888 := by
  have h1 := sum_cnt h.2
  have h2 := h.1
  have h3 := (symN_le k).1
  omega
theorem getD_cnt {c : List Int} (h : ∀ x ∈ c, Cnt x) (s : Nat) : Cnt (c.getD s 0) := by
  rw [List.getD_eq_getElem?_getD]
  cases e : c[s]? with
  | none => exact ⟨by simp, by simp⟩
  | some x => exact h x (List.mem_of_getElem? e)
theorem sbits_lt (k s : Nat) (h : s < symN k) : sbits k s < 44 := by
  unfold sbits
  split
  · omega
  · unfold symN at h
    have e : ∀ (off : Bool) (c : Nat), c < ecodes off → ebits off c < 44 := by decide
    by_cases h2 : k = 2
    · subst h2; exact e true s (by simpa [ecodes] using h)
    · have : decide (k = 2) = false := by simp [h2]
      rw [this]
      refine e false s ?_
      rename_i h0
      rw [if_neg h0, if_neg h2] at h
      simpa [ecodes] using h
end Go.Port
namespace Go.Port
open Go.RowKit
variable {P : Program} (w : World)
theorem zeroCells_one (x : Int) (q : IntKind) (n : Nat) : Builtin.zeroCells (Value.int q x).cells n = (List.replicate n (Value.int q x)).toArray := by
  apply Array.ext'
  simp [Builtin.zeroCells, Value.cells]
  apply List.ext_getElem?
  intro j
  by_cases h : j < n
  · simp [h, Nat.mod_one]
  · simp [h]
/-- 'append(v, make([]T, m)...)', v a row of the call's own, T an integer. -/
theorem run_append_own_zeros (base : Nat) (t tn ty e : TypeId) (i : TypeInfo) (q kq kn : IntKind) (ht : P.underlying t = some (.slice e)) (htn : P.underlying tn = some (.int kn)) (hi : P.info? e = some i) (hz : i.zero = some (.int q 0))
    (hsize : i.size = 1) (hby : i.bytes ≤ 8) (v : Value) (n : Nat) (xs : List Value) (hown : w.ownsRow base e 1 v n xs) (m : Nat) (hsm : n + m ≤ 1000000) (hbase : base ≤ w.heap.size) :
    ∃ v' w', (Builtin.append_ #[t, tn] ty #[v, .int kq m]).run P w = .ok v' w' ∧ w'.ownsRow base e 1 v' (n + m) (xs ++ List.replicate m (.int q 0)) ∧ w.grownBy w' v.ownBlock := by
  have hbm : ∀ k, k ≤ 1000000 → k * i.bytes ≤ 8000000 := fun k hk => Nat.le_trans (Nat.mul_le_mul hk hby) (by decide)
  have hw : IntKind.i64.wrap (m : Int) = m := by rw [IntKind.wrap_i64]; omega
  have hneg : ¬ ((m : Int) < 0) := by omega
  have h48i : ¬ (281474976710656 < (m : Int) * (i.bytes : Int)) := by
    have := hbm m (by omega)
    rw [← Int.natCast_mul]
    omega
  have hlen : (xs ++ List.replicate m (Value.int q 0)).length = (n + m) * 1 := by rw [List.length_append, hown.1, List.length_replicate]; omega
  have hxl : xs.length = n := by have := hown.1; omega
  have grown : ∀ (old : Nat), old < n + m → ∀ (row : Option Nat),
      (w.drew.alloc (.cells (xs.toArray ++ Builtin.zeroCells (Value.int q 0).cells m ++ Builtin.zeroCells (Value.int q 0).cells (grownCap w (n + m) old e - (n + m))) e)).ownsRow base e 1
        (.slice (some ⟨w.heap.size, 0, none⟩) (n + m) (grownCap w (n + m) old e)) (n + m) (xs ++ List.replicate m (.int q 0)) ∧
      w.grownBy (w.drew.alloc (.cells (xs.toArray ++ Builtin.zeroCells (Value.int q 0).cells m ++ Builtin.zeroCells (Value.int q 0).cells (grownCap w (n + m) old e - (n + m))) e)) row := by
    intro old ho row
    have hge := grownCap_ge w (n + m) old e
    have hcm : grownCap w (n + m) old e ≤ maxLen := grownCap_le_maxLen w (n + m) old e (by simp only [maxLen]; omega)
    refine ⟨⟨hlen, .inr ⟨w.heap.size, _, _, rfl, hbase, heap_alloc_new w.drew _, hge, hcm, ?_, ?_⟩⟩, ⟨rfl, rfl, rfl, by simp, fun k hk _ => heap_alloc_old w.drew _ hk⟩⟩
    · rw [zeroCells_one, zeroCells_one]
      simp only [Array.size_append, List.size_toArray, List.length_replicate, hxl]
      omega
    · rw [zeroCells_one, zeroCells_one]
      simp only [Array.toList_append, List.append_assoc]
      rw [← List.append_assoc, ← hlen]
      exact List.take_left
  rcases hown.2 with ⟨rfl, rfl⟩ | ⟨g, cap, cur, rfl, hbg, hg, hnc, hcm, hcs, htake⟩
  · have hx : xs = [] := List.eq_nil_of_length_eq_zero hxl
    subst hx
    by_cases hm : m = 0
    · subst hm
      refine ⟨.slice none 0 0, w, ?_, World.ownsRow_nil w base e 1, ⟨rfl, rfl, rfl, Nat.le_refl _, fun _ _ _ => rfl⟩⟩
      simp [Builtin.append_, run_underlying ht, run_underlying htn, sizeOf, typeInfo, hi, asInt, asIntOf]
      simp [IntKind.wrap_i64]
    · have hr := Lib.run_append_nil_zeros (P := P) w t tn ty e i (.int q 0) kq kn ht htn hi hz m (by omega) (by omega) (by omega) (by have := hbm m (by omega); omega)
      have hgr := grown 0 (by omega) (Value.ownBlock (.slice none 0 0))
      simp only [Nat.zero_add, List.nil_append, Array.empty_append] at hgr ⊢
      exact ⟨_, _, hr, hgr.1, hgr.2⟩
  · by_cases hroom : n + m ≤ cap
    · have hfit : 0 + n + (List.replicate m (Value.int q 0)).length ≤ cur.size := by rw [List.length_replicate, hcs]; omega
      have hst := run_storeCells_at P g n e (List.replicate m (Value.int q 0)) 0 cur w hg (by simpa using hfit) (fun u hu => by rw [(List.mem_replicate.1 hu).2]; rfl)
      simp only [Nat.add_zero] at hst
      by_cases hm : m = 0
      · subst hm
        refine ⟨.slice (some ⟨g, 0, none⟩) n cap, w, ?_, ?_, World.grownBy.refl w _⟩
        · simp [Builtin.append_, run_underlying ht, run_underlying htn, sizeOf, typeInfo, hi, hsize, asInt, asIntOf, Addr.add_lit]
          simp [IntKind.wrap_i64, hnc, storeCells]
        · simpa using hown
      · refine ⟨.slice (some ⟨g, 0, none⟩) (n + m) cap, w.setRow g (cur.toList.take n ++ List.replicate m (Value.int q 0) ++ cur.toList.drop (n + (List.replicate m (Value.int q 0)).length)).toArray, ?_,
          ⟨hlen, .inr ⟨g, cap, _, rfl, hbg, setRow_heap w g cur _ e _ hg, hroom, hcm, ?_, ?_⟩⟩, ⟨rfl, rfl, rfl, by simp, fun k _ hk => setRow_other w g k _ (fun e => hk (by simp [Value.ownBlock, e]))⟩⟩
        · simp [Builtin.append_, run_underlying ht, run_underlying htn, sizeOf, typeInfo, zeroValue, hi, hz, hsize, asInt, asIntOf, hw, hneg, h48i, hroom, hm, Addr.add_lit, zeroCells_one, hst]
        · simp only [List.size_toArray, List.length_append, List.length_take, List.length_drop, Array.length_toList, List.length_replicate, hcs]
          omega
        · have h2 : cur.toList.take n = xs := by rw [← htake, Nat.mul_one]
          rw [h2, ← hlen]
          exact List.take_left
    · have holds : ∀ j u, xs[j]? = some u → w.cell? ((⟨g, 0, none⟩ : Addr).add j) = some u := hown.cells (g := g) rfl
      have hm : 0 < m := by omega
      have hold : (Builtin.firstCells i.size n (.slice (some ⟨g, 0, none⟩) n cap)).run P w.drew = .ok xs.toArray w.drew := by
        have := run_firstCells_some (P := P) w.drew i.size n ⟨g, 0, none⟩ n cap xs (by rw [hsize]; omega) (fun j u hu => holds j u hu)
        exact this
      have hfit : Builtin.nextslicecap (n + m) cap * i.bytes ≤ 281474976710656 := growslice_fits (by omega) (by have := hbm (n + m) hsm; omega)
      have hr := Lib.run_append_grow_zeros (P := P) w t tn ty e i (.int q 0) kq kn ht htn hi hz (some ⟨g, 0, none⟩) n cap xs hold m hm (by omega) (by omega) (by omega) (by have := hbm m (by omega); omega) hfit
      have hgr := grown cap (by omega) (Value.ownBlock (.slice (some ⟨g, 0, none⟩) n cap))
      exact ⟨_, _, hr, hgr.1, hgr.2⟩
end Go.Port
