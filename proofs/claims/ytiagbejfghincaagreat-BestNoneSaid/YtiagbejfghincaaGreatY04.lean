/-
  Plain laws of layer 32 (price): what a symbol pcosts. No program in sight. And: a row that is lengthened by zeros.
  The walks of layer 20 (code): what splits a value into a code and a rest, and tells extra bits.
-/
import Derived.Test.YtiagbejfghincaaGreatY03
import Derived.Test.YtiagbejfghincaaGreatY02
import Derived.Test.YtiagbejfghincaaGreatRows
import Derived.Lib.AppendZerosOnto
import Derived.Laws.EntriesVeiled
namespace Go.Port
open Go.RowKit
/-- How many symbols the histogram k has. -/
def symN (k : Nat) : Nat := if k = 0 then 256 else if k = 2 then 28 else 44
/-- The extra bits of a symbol. -/
def sbits (k s : Nat) : Nat := if k = 0 then 0 else ebits (decide (k = 2)) s
/-- A histogram of the kind k. -/
def HistOk (k : Nat) (c : List Int) : Prop := c.length ≤ symN k ∧ ∀ x ∈ c, Cnt x
instance (x : Int) : Decidable (Cnt x) := by unfold Cnt; exact inferInstance
instance (k : Nat) (c : List Int) : Decidable (HistOk k c) := by unfold HistOk; exact inferInstance
/-- What a symbol pcosts. -/
def psym (k : Nat) (c : List Int) (s : Nat) : Int := lg (c.sum + symN k) - lg (c.getD s 0 + 1)
/-- .. and its extra bits. -/
def pcost (k : Nat) (c : List Int) (s : Nat) : Int := psym k c s + 256 * (sbits k s : Nat)
def pcosts (k : Nat) (c : List Int) : List Int := (List.range (symN k)).map (pcost k c)
theorem pcosts_at {k s : Nat} (c : List Int) (h : s < symN k) : (pcosts k c)[s]? = some (pcost k c s) := by
  unfold pcosts
  rw [List.getElem?_map, List.getElem?_range h]
  rfl
theorem symN_le (k : Nat) : symN k ≤ 256 ∧ 28 ≤ symN k := by unfold symN; split <;> (try split) <;> omega
theorem sum_cnt : ∀ {l : List Int}, (∀ x ∈ l, Cnt x) → 0 ≤ l.sum ∧ l.sum ≤ l.length * 2147483648 := by
  intro l
  induction l with
  | nil => intro _; simp
  | cons y r ih =>
    intro h
    have h1 := ih (fun x hx => h x (by simp [hx]))
    have h2 := h y (by simp)
    unfold Cnt at h2
    rw [List.sum_cons, List.length_cons]
    omega
theorem sum_hist {k : Nat} {c : List Int} (h : HistOk k c) : 0 ≤ c.sum ∧ c.sum ≤ 549755813888 := by
  have h1 := sum_cnt h.2
  have h2 := h.1
  have h3 := (symN_le k).1
  omega
theorem getD_cnt {c : List Int} (h : ∀ x ∈ c, Cnt x) (s : Nat) : Cnt (c.getD s 0) := by
  rw [List.getD_eq_getElem?_getD]
  cases e : c[s]? with
  | none => exact ⟨by simp, by simp⟩
  | some x => exact h x (List.mem_of_getElem? e)
theorem sbits_lt (k s : Nat) (h : s < symN k) : sbits k s < 44 := by
  unfold sbits
  split
  · omega
  · unfold symN at h
    have e : ∀ (off : Bool) (c : Nat), c < ecodes off → ebits off c < 44 := by decide
    by_cases h2 : k = 2
    · subst h2; exact e true s (by simpa [ecodes] using h)
    · have : decide (k = 2) = false := by simp [h2]
      rw [this]
      refine e false s ?_
      rename_i h0
      rw [if_neg h0, if_neg h2] at h
      simpa [ecodes] using h
end Go.Port
namespace Go.Port
open Go.RowKit
variable {P : Program} (w : World)
theorem zeroCells_one (x : Int) (q : IntKind) (n : Nat) : Builtin.zeroCells (Value.int q x).cells n = (List.replicate n (Value.int q x)).toArray := by
  apply Array.ext'
  simp [Builtin.zeroCells, Value.cells]
  apply List.ext_getElem?
  intro j
  by_cases h : j < n
  · simp [h, Nat.mod_one]
  · simp [h]
/-- 'append(v, make([]T, m)...)', v a row of the call's own, T an integer. -/
theorem run_append_own_zeros (base : Nat) (t tn ty e : TypeId) (i : TypeInfo) (q kq kn : IntKind) (ht : P.underlying t = some (.slice e)) (htn : P.underlying tn = some (.int kn)) (hi : P.info? e = some i) (hz : i.zero = some (.int q 0))
    (hsize : i.size = 1) (hby : i.bytes ≤ 8) (v : Value) (n : Nat) (xs : List Value) (hown : w.ownsRow base e 1 v n xs) (m : Nat) (hsm : n + m ≤ 1000000) (hbase : base ≤ w.heap.size) :
    ∃ v' w', (Builtin.append_ #[t, tn] ty #[v, .int kq m]).run P w = .ok v' w' ∧ w'.ownsRow base e 1 v' (n + m) (xs ++ List.replicate m (.int q 0)) ∧ w.grownBy w' v.ownBlock := by
  have hbm : ∀ k, k ≤ 1000000 → k * i.bytes ≤ 8000000 := fun k hk => Nat.le_trans (Nat.mul_le_mul hk hby) (by decide)
  have hw : IntKind.i64.wrap (m : Int) = m := by rw [IntKind.wrap_i64]; omega
  have hneg : ¬ ((m : Int) < 0) := by omega
  have h48i : ¬ (281474976710656 < (m : Int) * (i.bytes : Int)) := by
    have := hbm m (by omega)
    rw [← Int.natCast_mul]
    omega
  have hlen : (xs ++ List.replicate m (Value.int q 0)).length = (n + m) * 1 := by rw [List.length_append, hown.1, List.length_replicate]; omega
  have hxl : xs.length = n := by have := hown.1; omega
  have grown : ∀ (old : Nat), old < n + m → ∀ (row : Option Nat),
      (w.drew.alloc (.cells (xs.toArray ++ Builtin.zeroCells (Value.int q 0).cells m ++ Builtin.zeroCells (Value.int q 0).cells (grownCap w (n + m) old e - (n + m))) e)).ownsRow base e 1
        (.slice (some ⟨w.heap.size, 0, none⟩) (n + m) (grownCap w (n + m) old e)) (n + m) (xs ++ List.replicate m (.int q 0)) ∧
      w.grownBy (w.drew.alloc (.cells (xs.toArray ++ Builtin.zeroCells (Value.int q 0).cells m ++ Builtin.zeroCells (Value.int q 0).cells (grownCap w (n + m) old e - (n + m))) e)) row := by
    intro old ho row
    have hge := grownCap_ge w (n + m) old e
    have hcm : grownCap w (n + m) old e ≤ maxLen := grownCap_le_maxLen w (n + m) old e (by simp only [maxLen]; omega)
    refine ⟨⟨hlen, .inr ⟨w.heap.size, _, _, rfl, hbase, heap_alloc_new w.drew _, hge, hcm, ?_, ?_⟩⟩, ⟨rfl, rfl, rfl, by simp, fun k hk _ => heap_alloc_old w.drew _ hk⟩⟩
    · rw [zeroCells_one, zeroCells_one]
      simp only [Array.size_append, List.size_toArray, List.length_replicate, hxl]
      omega
    · rw [zeroCells_one, zeroCells_one]
      simp only [Array.toList_append, List.append_assoc]
      rw [← List.append_assoc, ← hlen]
      exact List.take_left
  rcases hown.2 with ⟨rfl, rfl⟩ | ⟨g, cap, cur, rfl, hbg, hg, hnc, hcm, hcs, htake⟩
  · have hx : xs = [] := List.eq_nil_of_length_eq_zero hxl
    subst hx
    by_cases hm : m = 0
    · subst hm
      refine ⟨.slice none 0 0, w, ?_, World.ownsRow_nil w base e 1, ⟨rfl, rfl, rfl, Nat.le_refl _, fun _ _ _ => rfl⟩⟩
      simp [Builtin.append_, run_underlying ht, run_underlying htn, sizeOf, typeInfo, hi, asInt, asIntOf]
      simp [IntKind.wrap_i64]
    · have hr := Lib.run_append_nil_zeros (P := P) w t tn ty e i (.int q 0) kq kn ht htn hi hz m (by omega) (by omega) (by omega) (by have := hbm m (by omega); omega)
      have hgr := grown 0 (by omega) (Value.ownBlock (.slice none 0 0))
      simp only [Nat.zero_add, List.nil_append, Array.empty_append] at hgr ⊢
      exact ⟨_, _, hr, hgr.1, hgr.2⟩
  · by_cases hroom : n + m ≤ cap
    · have hfit : 0 + n + (List.replicate m (Value.int q 0)).length ≤ cur.size := by rw [List.length_replicate, hcs]; omega
      have hst := run_storeCells_at P g n e (List.replicate m (Value.int q 0)) 0 cur w hg (by simpa using hfit) (fun u hu => by rw [(List.mem_replicate.1 hu).2]; rfl)
      simp only [Nat.add_zero] at hst
      by_cases hm : m = 0
      · subst hm
        refine ⟨.slice (some ⟨g, 0, none⟩) n cap, w, ?_, ?_, World.grownBy.refl w _⟩
        · simp [Builtin.append_, run_underlying ht, run_underlying htn, sizeOf, typeInfo, hi, hsize, asInt, asIntOf, Addr.add_lit]
          simp [IntKind.wrap_i64, hnc, storeCells]
        · simpa using hown
      · refine ⟨.slice (some ⟨g, 0, none⟩) (n + m) cap, w.setRow g (cur.toList.take n ++ List.replicate m (Value.int q 0) ++ cur.toList.drop (n + (List.replicate m (Value.int q 0)).length)).toArray, ?_,
          ⟨hlen, .inr ⟨g, cap, _, rfl, hbg, setRow_heap w g cur _ e _ hg, hroom, hcm, ?_, ?_⟩⟩, ⟨rfl, rfl, rfl, by simp, fun k _ hk => setRow_other w g k _ (fun e => hk (by simp [Value.ownBlock, e]))⟩⟩
        · simp [Builtin.append_, run_underlying ht, run_underlying htn, sizeOf, typeInfo, zeroValue, hi, hz, hsize, asInt, asIntOf, hw, hneg, h48i, hroom, hm, Addr.add_lit, zeroCells_one, hst]
        · simp only [List.size_toArray, List.length_append, List.length_take, List.length_drop, Array.length_toList, List.length_replicate, hcs]
          omega
        · have h2 : cur.toList.take n = xs := by rw [← htake, Nat.mul_one]
          rw [h2, ← hlen]
          exact List.take_left
    · have holds : ∀ j u, xs[j]? = some u → w.cell? ((⟨g, 0, none⟩ : Addr).add j) = some u := hown.cells (g := g) rfl
      have hm : 0 < m := by omega
      have hold : (Builtin.firstCells i.size n (.slice (some ⟨g, 0, none⟩) n cap)).run P w.drew = .ok xs.toArray w.drew := by
        have := run_firstCells_some (P := P) w.drew i.size n ⟨g, 0, none⟩ n cap xs (by rw [hsize]; omega) (fun j u hu => holds j u hu)
        exact this
      have hfit : Builtin.nextslicecap (n + m) cap * i.bytes ≤ 281474976710656 := growslice_fits (by omega) (by have := hbm (n + m) hsm; omega)
      have hr := Lib.run_append_grow_zeros (P := P) w t tn ty e i (.int q 0) kq kn ht htn hi hz (some ⟨g, 0, none⟩) n cap xs hold m hm (by omega) (by omega) (by omega) (by have := hbm m (by omega); omega) hfit
      have hgr := grown cap (by omega) (Value.ownBlock (.slice (some ⟨g, 0, none⟩) n cap))
      exact ⟨_, _, hr, hgr.1, hgr.2⟩
end Go.Port
namespace Go.Proofs.YtiagbejfghincaaGreat
open Go.RowKit Go.Port
theorem inside_ok (x least below : Int) (w : World) (h0 : least ≤ x) (h1 : x < below) :
    Calls Tryz.prog 121 #[.int .i64 x, .int .i64 least, .int .i64 below] w fun e w' => e = .returned (.int .i64 0) ∧ w = w' := by
  have h2 : ¬ x < least := by omega
  have h3 : ¬ below ≤ x := by omega
  go_enter Tryz.func121, Tryz.ntmps121
  go_wp2
  go_ret
  exact ⟨rfl, rfl⟩
theorem inside_bad (x least below : Int) (w : World) (h : x < least ∨ below ≤ x) :
    Calls Tryz.prog 121 #[.int .i64 x, .int .i64 least, .int .i64 below] w fun e w' => e = .returned (.int .i64 2) ∧ w = w' := by
  by_cases h2 : x < least
  · clear h
    go_enter Tryz.func121, Tryz.ntmps121
    go_wp2
    go_ret
    exact ⟨rfl, rfl⟩
  · have h3 : below ≤ x := by omega
    clear h
    go_enter Tryz.func121, Tryz.ntmps121
    go_wp2
    go_ret
    exact ⟨rfl, rfl⟩
/-- The kind of offsets. -/
def offKind : Value := .agg #[.int .i64 1, .int .i64 268435456, .int .i64 28, .func (.func 117) #[] #[], .func (.func 119) #[] #[], .func (.func 120) #[] #[]]
/-- The kind of numbers, whose closures know the cell q. -/
def numKind (q : Nat) : Value := .agg #[.int .i64 0, .int .i64 262144, .int .i64 44, .func (.func 123) #[] #[], .func (.func 124) #[] #[.pointer (some ⟨q, 0, none⟩)], .func (.func 125) #[] #[.pointer (some ⟨q, 0, none⟩)]]
set_option maxRecDepth 100000 in
theorem offsets_any (w : World) : Calls Tryz.prog 88 #[] w (RetV w offKind) := by
  unfold offKind
  go_enter Tryz.func88, Tryz.ntmps88
  go_wp2
  refine bodyPost_ret (v := .agg #[.int .i64 1, .int .i64 268435456, .int .i64 28, .func (.func 117) #[] #[], .func (.func 119) #[] #[], .func (.func 120) #[] #[]]) (by simp [results, Tryz.results88, go_sem]) rfl ⟨rfl, ?_⟩
  exact below_new w _
theorem off1_any (v : Nat) (w : World) (h0 : 1 ≤ v) (h1 : v < 268435456) :
    Calls Tryz.prog 117 #[.int .i64 (v : Int)] w fun e w' => e = .returned (.int .i64 (ecode true v : Nat)) ∧ w = w' := by
  have HC := hid (len_log (v : Int) w (by omega) (by omega))
  have hw1 : IntKind.u64.wrap (v : Int) = v := u64_nat v (by omega)
  have hl : Nat.log2 v < 28 := (Nat.log2_lt (by omega)).2 (by omega)
  have HE := hid (show ecode true v = Nat.log2 v from rfl)
  rw [Int.toNat_natCast] at HC
  generalize ecode true v = x at *
  generalize Nat.log2 v = k at *
  have HW2 := hid (show wrap64 (k : Int) = (k : Int) from by simp only [wrap64]; omega)
  clear h0 h1 hl
  go_enter Tryz.func117, Tryz.ntmps117
  go_wp2_with (go_at_call 118; refine HC.out.mono ?_; rintro e w' ⟨rfl, rfl⟩)
  go_ret
  exact ⟨ret_i (by rw [HE.out, HW2.out]), rfl⟩
theorem off2_any (c : Int) (w : World) :
    Calls Tryz.prog 119 #[.int .i64 c] w fun e w' => e = .returned (.int .i64 c) ∧ w = w' := by
  go_enter Tryz.func119, Tryz.ntmps119
  go_wp2
  go_ret
  exact ⟨rfl, rfl⟩
theorem off3_any (c : Nat) (w : World) (h : c < 28) :
    Calls Tryz.prog 120 #[.int .i64 (c : Int)] w fun e w' => e = .returned (.int .i64 (efirst true c : Nat)) ∧ w = w' := by
  have h2 : ∀ c, c < 28 → wrap64 ((2 : Int) ^ min c 64) = ((2 ^ c : Nat) : Int) := by decide +kernel
  have HE := hid (h2 c h)
  clear h h2
  go_enter Tryz.func120, Tryz.ntmps120
  go_wp2
  go_ret
  exact ⟨ret_i HE.out, rfl⟩
theorem num1_any (c : Nat) (w : World) (h : 16 ≤ c) (h2 : c < 44) :
    Calls Tryz.prog 122 #[.int .i64 (c : Int)] w fun e w' => e = .returned (.int .i64 (ebits false c : Nat)) ∧ w = w' := by
  have HE := hid (show (ebits false c : Int) = (c : Int) / 2 - 5 from by unfold ebits; simp only [Bool.false_eq_true, if_false]; rw [if_neg (by omega)]; omega)
  have hw1 : IntKind.i64.wrap ((c : Int) / 2) = (c : Int) / 2 := by rw [IntKind.wrap_i64]; omega
  have hw2 : IntKind.i64.wrap ((c : Int) / 2 - 5) = (c : Int) / 2 - 5 := by rw [IntKind.wrap_i64]; omega
  have hm : max ((c : Int) / 2 - 5) 0 = (c : Int) / 2 - 5 := by omega
  have hp : ¬ (c : Int) / 2 - 5 < 0 := by omega
  clear h h2
  go_enter Tryz.func122, Tryz.ntmps122
  go_wp2
  go_ret
  exact ⟨ret_i HE.out.symm, rfl⟩
set_option maxRecDepth 100000 in
theorem numbers_any (w : World) : Calls Tryz.prog 90 #[] w fun e w' => ∃ q, e = .returned (numKind q) ∧ Blk w' q [.func (.func 122) #[] #[]] 120 ∧ Below w.heap.size w w' := by
  have hmf : ∀ (fn : Fn) (first cap : Array Value) (w : World), (Instr.makeFunc fn first cap).run Tryz.prog w = .ok (.func fn first cap) w := fun _ _ _ _ => rfl
  unfold numKind
  go_enter Tryz.func90, Tryz.ntmps90
  go_wp2
  refine bodyPost_ret (v := .agg #[.int .i64 0, .int .i64 262144, .int .i64 44, .func (.func 123) #[] #[], .func (.func 124) #[] #[.pointer (some ⟨w.heap.size + 1, 0, none⟩)], .func (.func 125) #[] #[.pointer (some ⟨w.heap.size + 1, 0, none⟩)]]) (by simp [results, Tryz.results90, go_sem]) rfl ⟨_, rfl, ?_, (below_new w _).alloc (by simp) _⟩
  have h := Blk.new (w.alloc (.cells #[.int .i64 0, .int .i64 262144, .int .i64 44, .func (.func 123) #[] #[], .func (.func 124) #[] #[.pointer (some ⟨w.heap.size + 1, 0, none⟩)], .func (.func 125) #[] #[.pointer (some ⟨w.heap.size + 1, 0, none⟩)]] 152)) [.func (.func 122) #[] #[]] 120
  rwa [World.size_alloc] at h
theorem num4_eq : ∀ c : Nat, c < 44 → 16 ≤ c → wrap64 ((2 + (c : Int) % 2) * 2 ^ min (ebits false c) 64) = (efirst false c : Nat) := by decide +kernel
theorem wrap_small {x : Int} (h0 : 0 ≤ x) (h1 : x < 1000) : wrap64 x = x := by simp only [wrap64]; omega
theorem num2_eq (k r : Nat) (hk : k < 18) : wrap64 (wrap64 (8 + wrap64 (2 * wrap64 (k : Int))) + (r : Int) % 2) = ((8 + 2 * k + r % 2 : Nat) : Int) := by
  rw [wrap_small (x := (k : Int)) (by omega) (by omega), wrap_small (x := 2 * (k : Int)) (by omega) (by omega), wrap_small (x := 8 + 2 * (k : Int)) (by omega) (by omega), wrap_small (by omega) (by omega)]
  omega
theorem bit1 : ∀ c : Nat, c < 44 → bits .and .i64 (c : Int) 1 = ((c % 2 : Nat) : Int) := by decide +kernel
theorem num2_lo (v : Nat) (w : World) (h : v < 16) :
    Calls Tryz.prog 123 #[.int .i64 (v : Int)] w fun e w' => e = .returned (.int .i64 (ecode false v : Nat)) ∧ w = w' := by
  have HE := hid (show ecode false v = v from by unfold ecode; simp only [Bool.false_eq_true, if_false]; rw [if_pos h])
  have hs : (v : Int) < 16 := by omega
  clear h
  go_enter Tryz.func123, Tryz.ntmps123
  go_wp2
  go_ret
  exact ⟨ret_i (by rw [HE.out]), rfl⟩
theorem num2_hi (v : Nat) (w : World) (h : 16 ≤ v) (h1 : v < 262144) :
    Calls Tryz.prog 123 #[.int .i64 (v : Int)] w fun e w' => e = .returned (.int .i64 (ecode false v : Nat)) ∧ w = w' := by
  have HE := hid (show ecode false v = 8 + 2 * Nat.log2 v + v / 2 ^ (Nat.log2 v - 1) % 2 from by unfold ecode; simp only [Bool.false_eq_true, if_false]; rw [if_neg (by omega)])
  have hs : ¬ (v : Int) < 16 := by omega
  have HC := hid (len_log (v : Int) w (by omega) (by omega))
  have hw1 : IntKind.u64.wrap (v : Int) = v := u64_nat v (by omega)
  rw [Int.toNat_natCast] at HC
  have hv : v ≠ 0 := by omega
  have hk1 : 4 ≤ Nat.log2 v := (Nat.le_log2 hv).2 (by omega)
  have hk2 : Nat.log2 v < 18 := (Nat.log2_lt hv).2 (by omega)
  have HR : ∀ k, 4 ≤ k → Nat.log2 v = k → v / 2 ^ (k - 1) < 44 := fun k hk e => by
    have hi := log2_hi v
    rw [e] at hi
    obtain ⟨m, rfl⟩ : ∃ m, k = m + 1 := ⟨k - 1, by omega⟩
    rw [Nat.add_sub_cancel]
    have e1 : 2 ^ (m + 1 + 1) = 2 ^ m * 4 := by rw [Nat.pow_succ, Nat.pow_succ]; omega
    rw [e1] at hi
    have hp : 0 < 2 ^ m := Nat.two_pow_pos m
    have := (Nat.div_lt_iff_lt_mul hp (x := v) (y := 4)).2 (by omega)
    omega
  generalize ecode false v = x at *
  generalize hkk : Nat.log2 v = k at *
  have hsh : Op.shift .shr .i64 (v : Int) .i64 (wrap64 (wrap64 (k : Int) - 1)) = pure (.int .i64 ((v / 2 ^ (k - 1) : Nat) : Int)) := by
    have e : wrap64 (wrap64 (k : Int) - 1) = ((k - 1 : Nat) : Int) := by simp only [wrap64]; omega
    rw [e, shift_shr .i64 .i64 (v : Int) ((k - 1 : Nat) : Int) (by omega) (by show ((k - 1 : Nat) : Int) ≤ 64; omega), Int.toNat_natCast]
    simp
  have hr : v / 2 ^ (k - 1) < 44 := HR k hk1 rfl
  have HK := hid (And.intro hk1 hk2)
  generalize v / 2 ^ (k - 1) = r at *
  have hbit := bit1 r hr
  clear h h1 hv hk1 hk2 hr HR
  go_enter Tryz.func123, Tryz.ntmps123
  go_wp2_with (go_at_call 118; refine HC.out.mono ?_; rintro e w' ⟨rfl, rfl⟩)
  go_ret
  exact ⟨ret_i (by have := HK.out; rw [HE.out]; exact num2_eq k r this.2), rfl⟩
theorem num3_lo (c q : Nat) (w : World) (h : c < 16) :
    Calls Tryz.prog 124 #[.int .i64 (c : Int), .pointer (some ⟨q, 0, none⟩)] w fun e w' => e = .returned (.int .i64 (ebits false c : Nat)) ∧ w = w' := by
  have HE := hid (show ebits false c = 0 from by unfold ebits; simp only [Bool.false_eq_true, if_false]; rw [if_pos h])
  have hs : (c : Int) < 16 := by omega
  clear h
  go_enter Tryz.func124, Tryz.ntmps124
  go_wp2
  go_ret
  exact ⟨ret_i (by rw [HE.out]; rfl), rfl⟩
theorem num3_hi (c q : Nat) (w : World) (h : 16 ≤ c) (h2 : c < 44) (hq : Blk w q [.func (.func 122) #[] #[]] 120) :
    Calls Tryz.prog 124 #[.int .i64 (c : Int), .pointer (some ⟨q, 0, none⟩)] w fun e w' => e = .returned (.int .i64 (ebits false c : Nat)) ∧ w = w' := by
  have HN := hid (num1_any c w h h2)
  have c0 := hq.cell (k := 0) rfl
  have hs : ¬ (c : Int) < 16 := by omega
  clear h h2 hq
  go_enter Tryz.func124, Tryz.ntmps124
  go_wp2_with fail
  refine HN.out.mono ?_
  rintro e w' ⟨rfl, rfl⟩
  go_wp2
  go_ret
  exact ⟨rfl, rfl⟩
theorem num4_lo (c q : Nat) (w : World) (h : c < 16) :
    Calls Tryz.prog 125 #[.int .i64 (c : Int), .pointer (some ⟨q, 0, none⟩)] w fun e w' => e = .returned (.int .i64 (efirst false c : Nat)) ∧ w = w' := by
  have HE := hid (show efirst false c = c from by unfold efirst; simp only [Bool.false_eq_true, if_false]; rw [if_pos h])
  have hs : (c : Int) < 16 := by omega
  clear h
  go_enter Tryz.func125, Tryz.ntmps125
  go_wp2
  go_ret
  exact ⟨ret_i (by rw [HE.out]), rfl⟩
theorem num4_hi (c q : Nat) (w : World) (h : 16 ≤ c) (h2 : c < 44) (hq : Blk w q [.func (.func 122) #[] #[]] 120) :
    Calls Tryz.prog 125 #[.int .i64 (c : Int), .pointer (some ⟨q, 0, none⟩)] w fun e w' => e = .returned (.int .i64 (efirst false c : Nat)) ∧ w = w' := by
  have HN := hid (num1_any c w h h2)
  have c0 := hq.cell (k := 0) rfl
  have hs : ¬ (c : Int) < 16 := by omega
  have hb := bit1 c h2
  have hw1 : IntKind.i64.wrap (2 + ((c % 2 : Nat) : Int)) = 2 + ((c % 2 : Nat) : Int) := by rw [IntKind.wrap_i64]; omega
  have HH := hid (And.intro h h2)
  clear h h2 hq
  go_enter Tryz.func125, Tryz.ntmps125
  go_wp2_with fail
  refine HN.out.mono ?_
  rintro e w' ⟨rfl, rfl⟩
  go_wp2
  go_ret
  exact ⟨ret_i (by have := HH.out; exact num4_eq c this.2 this.1), rfl⟩
end Go.Proofs.YtiagbejfghincaaGreat
