/-
  The walks of layer 32 (price), fifth part: none, at, Literals; the costs of numbers, or a panic.
-/
import Derived.Test.YtlgablepckmogaaGreatQ17
namespace Go.Port
open Go.RowKit
/-- The code of a number, if it has one. -/
def codeS (off : Bool) (n : Int) : Option Nat := if (eleast off : Int) ≤ n ∧ n < (ebelow off : Int) then some (ecode off n.toNat) else none
/-- What a number costs by the histogram k. -/
def numC (C : Nat → List Int) (k : Nat) (n : Int) : Option Int := (codeS (decide (k = 2)) n).map fun c => pcost k (C k) c
def lenC (C : Nat → List Int) (n : Int) : Option Int := if n < 3 then none else numC C 3 (n - 3)
def stepC (C : Nat → List Int) (n off : Int) : Option Int := if off < 1 ∨ 134217728 < off then none else (numC C 2 (off + 3)).bind fun a => (lenC C n).map fun b => a + b
def litsC (C : Nat → List Int) (bs : List UInt8) : Int := (bs.map fun b => pcost 0 (C 0) b.toNat).sum
theorem codeS_lt {off : Bool} {n : Int} {c : Nat} (h : codeS off n = some c) : c < ecodes off := by
  unfold codeS at h
  split at h
  · rename_i h1
    have := (ecode_spec (off := off) (v := n.toNat) (by omega) (by omega)).1
    cases h
    exact this
  · cases h
theorem symN_codes (k : Nat) (h : 1 ≤ k) : symN k = ecodes (decide (k = 2)) := by
  unfold symN ecodes
  by_cases h2 : k = 2
  · subst h2; rfl
  · rw [if_neg (by omega), if_neg h2]; simp [h2]
theorem pcost_bounds {k : Nat} {c : List Int} (h : HistOk k c) {s : Nat} (hs : s < symN k) : -16384 ≤ pcost k c s ∧ pcost k c s ≤ 32768 := by
  unfold pcost psym
  have h1 := sum_hist h
  have h2 := symN_le k
  have h3 := getD_cnt h.2 s
  unfold Cnt at h3
  have h4 := lg_bounds (x := c.sum + symN k) (by omega) (by omega)
  have h5 := lg_bounds (x := c.getD s 0 + 1) (by omega) (by omega)
  have h6 := sbits_lt k s hs
  omega
theorem numC_bounds {C : Nat → List Int} {k : Nat} (hk : 1 ≤ k) (h : HistOk k (C k)) {n x : Int} (e : numC C k n = some x) : -16384 ≤ x ∧ x ≤ 32768 := by
  unfold numC at e
  cases hc : codeS (decide (k = 2)) n with
  | none => rw [hc] at e; cases e
  | some c =>
    rw [hc] at e
    cases e
    exact pcost_bounds h (by rw [symN_codes k hk]; exact codeS_lt hc)
theorem lits_bounds {C : Nat → List Int} (h : HistOk 0 (C 0)) : ∀ bs : List UInt8, -16384 * (bs.length : Int) ≤ litsC C bs ∧ litsC C bs ≤ 32768 * (bs.length : Int) := by
  intro bs
  unfold litsC
  induction bs with
  | nil => simp
  | cons b r ih =>
    have := pcost_bounds h (s := b.toNat) (by have := b.toNat_lt; unfold symN; simp; omega)
    simp only [List.map_cons, List.sum_cons, List.length_cons]
    omega
theorem lits_snoc (C : Nat → List Int) (l : List UInt8) (b : UInt8) : litsC C (l ++ [b]) = litsC C l + pcost 0 (C 0) b.toNat := by
  unfold litsC
  simp [List.sum_append]
end Go.Port
namespace Go.Proofs.YtlgablepckmogaaGreat
open Go.RowKit Go.Port
/-- It panics with the error n; what lay stays. -/
def PanV (w : World) (n : Int) (e : Ending) (w' : World) : Prop := e = .panicked [{ v := .iface 25 (.int .i64 n), recovered := false }] ∧ Below w.heap.size w w'
/-- It returns the number, or panics with 2. -/
def OrV (w : World) (o : Option Int) (e : Ending) (w' : World) : Prop := match o with
  | some x => RetV w (.int .i64 x) e w'
  | none => PanV w 2 e w'
theorem bp_put {P : Program} {fn : Func} {R : Ending → World → Prop} {K : Act → World → Prop} {c : List PanicEntry} {a : Act} {w : World} {d : Option Tmp} {v : Value} (h : Exit.then K (bodyPost P fn R) (.panic c) (a.put d v) w) : Exit.then K (bodyPost P fn R) (.panic c) a w := by
  cases d <;> exact h
/-- The rows of a model. -/
def PrRow (w : World) (R : Nat) (C : Nat → List Int) : Prop := ∃ V, Blk w R [V 0, V 1, V 2, V 3] 156 ∧ RowsOk w V 4 C
theorem PrAt.open {w : World} {M : Nat} {C : Nat → List Int} (h : PrAt w M C) : ∃ R, Blk w M [.pointer (some ⟨R, 0, none⟩)] 158 ∧ PrRow w R C := by
  obtain ⟨R, V, h1, h2, h3⟩ := h.ex
  exact ⟨R, h1, V, h2, h3⟩
theorem PrRow.low {w w' : World} {R : Nat} {C : Nat → List Int} (h : PrRow w R C) (hb : Below w.heap.size w w') : PrRow w' R C := by
  obtain ⟨V, h1, h2⟩ := h
  exact ⟨V, h1.below hb h1.lt, h2.low hb⟩
set_option maxRecDepth 100000 in
theorem prno_any (w : World) (M : Nat) (C : Nat → List Int) (h : PrAt w M C) : Calls Tryz.prog 140 #[.pointer (some ⟨M, 0, none⟩)] w fun e w' => e = .returned (.bool false) ∧ w = w' := by
  obtain ⟨R, hm, _⟩ := h.open
  have c0 := hm.cell (k := 0) rfl
  clear h hm
  go_enter Tryz.func140, Tryz.ntmps140
  go_wp2
  go_ret
  exact ⟨rfl, rfl⟩
/-- An absent model. -/
def NoPr (w : World) (p : Option Addr) : Prop := p = none ∨ ∃ M, p = some ⟨M, 0, none⟩ ∧ Blk w M [.pointer none] 158
theorem NoPr.low {w w' : World} {p : Option Addr} (h : NoPr w p) (hb : Below w.heap.size w w') : NoPr w' p := by
  rcases h with h | ⟨M, h1, h2⟩
  · exact .inl h
  · exact .inr ⟨M, h1, h2.below hb h2.lt⟩
set_option maxRecDepth 100000 in
theorem prat_any (w : World) (R : Nat) (C : Nat → List Int) (h : PrRow w R C) (k s : Nat) (hk : k < 4) (hs : s < symN k) :
    Calls Tryz.prog 141 #[.pointer (some ⟨R, 0, none⟩), .int .i64 (k : Int), .int .i64 (s : Int)] w fun e w' => e = .returned (.int .i64 (pcost k (C k) s)) ∧ w = w' := by
  obtain ⟨V, h1, h2⟩ := h
  obtain ⟨g, cap, e1, e2, e3, e4⟩ := h2 k hk
  have c0 := h1.cell (get_four V k hk)
  rw [e1] at c0
  have c1 := e4.cell (k := s) (u := .int .i64 (pcost k (C k) s)) (by rw [List.getElem?_map, pcosts_at _ hs]; rfl)
  have hkI : (k : Int) < 4 := by omega
  have hsI : (s : Int) < (symN k : Int) := by omega
  have hcI : (symN k : Int) ≤ (cap : Int) := by omega
  clear h1 h2 e1 e2 e3 e4 hk hs
  go_enter Tryz.func141, Tryz.ntmps141
  go_wp2
  go_ret
  exact ⟨rfl, rfl⟩
set_option maxRecDepth 100000 in
set_option maxHeartbeats 1000000 in
theorem prlits_any (w : World) (M : Nat) (C : Nat → List Int) (h : PrAt w M C) (a : Option Addr) (cp : Nat) (bs : List UInt8) (hn : bs.length ≤ 1000000) (hc : Cs w a (bs.map bv)) :
    Calls Tryz.prog 111 #[.pointer (some ⟨M, 0, none⟩), .slice a bs.length cp] w fun e w' => e = .returned (.int .i64 (litsC C bs)) ∧ w = w' := by
  have HN := hid (prno_any w M C h)
  have HC := hid hc
  have HO := hid h.ok
  obtain ⟨R, hm, hr⟩ := h.open
  have HA := hid (fun s hs => prat_any w R C hr 0 s (by decide) hs)
  have c0 := hm.cell (k := 0) rfl
  have HL := hid (fun l => lits_bounds (HO.out 0 (by decide)) l)
  have hnI : (bs.length : Int) ≤ 1000000 := by omega
  clear h hm hr hc
  go_enter Tryz.func111, Tryz.ntmps111
  go_wp2_with fail
  refine HN.out.mono ?_
  rintro e w' ⟨rfl, rfl⟩
  go_wp2_with fail
  go_loop [4, 11] (fun n i => ∃ k : Nat, k ≤ bs.length ∧ i = .int .i64 (k : Int) ∧ n = .int .i64 (litsC C (bs.take k))) (fun _ i => bs.length - (intOf i).toNat)
  case atStart => exact ⟨0, Nat.zero_le _, rfl, by simp [litsC]⟩
  case round =>
    obtain ⟨k, hk, rfl, rfl⟩ := hrel
    by_cases hlt : k < bs.length
    · obtain ⟨x, hx⟩ : ∃ x, bs[k]? = some x := ⟨bs[k], by simp [hlt]⟩
      obtain ⟨b, off, rfl, _, hcell⟩ := HC.out k (bv x) (by simp [hx])
      unfold bv at hcell
      have hsn : litsC C (bs.take (k + 1)) = litsC C (bs.take k) + pcost 0 (C 0) x.toNat := by
        rw [← lits_snoc, List.take_succ_eq_append_getElem hlt]
        congr 2
        have : bs[k] = x := by simpa [hlt] using hx
        rw [this]
      have HS := hid hsn
      have hb1 := HL.out (bs.take k)
      have hb2 := HL.out (bs.take (k + 1))
      have hlen1 : (bs.take k).length ≤ bs.length := by rw [List.length_take]; omega
      have hlen2 : (bs.take (k + 1)).length ≤ bs.length := by rw [List.length_take]; omega
      rw [hsn] at hb2
      have hx256 : x.toNat < symN 0 := by have := x.toNat_lt; unfold symN; simp; omega
      have HAx : Hid (Calls Tryz.prog 141 #[.pointer (some ⟨R, 0, none⟩), .int .i64 0, .int .i64 (x.toNat : Int)] w fun e w' => e = .returned (.int .i64 (pcost 0 (C 0) x.toNat)) ∧ w = w') := hid (HA.out x.toNat hx256)
      generalize litsC C (bs.take k) = acc at *
      generalize pcost 0 (C 0) x.toNat = px at *
      have hw1 : IntKind.i64.wrap (acc + px) = acc + px := by rw [IntKind.wrap_i64]; omega
      have HLt := hid hlt
      have hltI : (k : Int) < (bs.length : Int) := by omega
      have hbq : -40000000000 ≤ acc + px ∧ acc + px ≤ 40000000000 := by omega
      obtain ⟨hbq1, hbq2⟩ := hbq
      have hx255 : (x.toNat : Int) ≤ 255 := by have := x.toNat_lt; omega
      have hx0 : 0 ≤ (x.toNat : Int) := by omega
      have hwx : wrap64 (x.toNat : Int) = (x.toNat : Int) := IntWalk.wrap64_in _ ⟨by omega, by omega⟩
      clear hx hsn hb1 hb2 hlen1 hlen2 hx256 hlt hk
      go_wp2_with fail
      refine HAx.out.mono ?_
      rintro e w' ⟨rfl, rfl⟩
      go_wp2_with fail
      go_round
      case rel => exact ⟨k + 1, by have := HLt.out; omega, by go_num, by rw [HS.out]⟩
      case measure => have := HLt.out; simp [intOf]; omega
    · obtain rfl : k = bs.length := by omega
      go_wp2
      go_ret
      exact ⟨by simp, rfl⟩
/-- The function that splits a value. -/
def fsplit (off : Bool) : FuncId := if off then 64 else 66
theorem fsplit_enter (off : Bool) (args : Array Value) (w : World) : (callFunc (fsplit off) args).run Tryz.prog w = .ok (.enter (fsplit off) args) w := by
  cases off <;> kernel_rfl
theorem fsplit_ok (off : Bool) (n : Int) (c : Nat) (h : codeS off n = some c) (w : World) : Calls Tryz.prog (fsplit off) #[.int .i64 n] w fun e w' => (∃ r : Int, e = .returned (.tuple #[.int .i64 (c : Int), .int .u64 r, .int .i64 0])) ∧ Below w.heap.size w w' := by
  unfold codeS at h
  split at h
  · rename_i h1
    cases h
    obtain ⟨v, rfl⟩ : ∃ v : Nat, n = (v : Int) := ⟨n.toNat, by omega⟩
    rw [Int.toNat_natCast]
    cases off with
    | true => exact SplitOffset_ok v w (by have := h1.1; unfold eleast at this; simp at this; omega) (by have := h1.2; unfold ebelow at this; simp at this; omega)
    | false => exact Split_ok v w (Nat.zero_le _) (by have := h1.2; unfold ebelow at this; simp at this; omega)
  · cases h
theorem fsplit_bad (off : Bool) (n : Int) (h : codeS off n = none) (w : World) : Calls Tryz.prog (fsplit off) #[.int .i64 n] w (RetV w (.tuple #[.int .i64 0, .int .u64 0, .int .i64 2])) := by
  unfold codeS at h
  split at h
  · cases h
  · rename_i h1
    cases off with
    | true => exact SplitOffset_bad n w (by unfold eleast ebelow at h1; simp at h1; omega)
    | false => exact Split_bad n w (by unfold eleast ebelow at h1; simp at h1; omega)
set_option maxRecDepth 100000 in
theorem prcoded_any (off : Bool) (n : Int) (w : World) : Calls Tryz.prog 63 #[.func (.func (fsplit off)) #[] #[], .int .i64 n] w (OrV w ((codeS off n).map fun c => (c : Int))) := by
  have hen := fsplit_enter off
  cases ho : codeS off n with
  | some c =>
    have HF := hid (fsplit_ok off n c ho w)
    clear ho
    show Calls Tryz.prog _ _ w (RetV w (.int .i64 (c : Int)))
    go_enter Tryz.func63, Tryz.ntmps63
    go_wp2_with fail
    refine HF.out.mono ?_
    rintro e w1 ⟨⟨r, rfl⟩, hb⟩
    have HM := hid (prmust_ok w1.heap.size (w1.alloc (.cells #[.int .i64 0] 25)) ((Blk.new w1 [.int .i64 0] 25).cell (k := 0) rfl))
    have HB := hid (hb.trans ((below_new w1 (.cells #[.int .i64 0] 25)).mono hb.size))
    clear hb
    go_wp2_with fail
    refine HM.out.mono ?_
    rintro e w' ⟨rfl, rfl⟩
    go_wp2
    go_ret
    exact ⟨rfl, HB.out⟩
  | none =>
    have HF := hid (fsplit_bad off n ho w)
    clear ho
    show Calls Tryz.prog _ _ w (PanV w 2)
    go_enter Tryz.func63, Tryz.ntmps63
    go_wp2_with fail
    refine HF.out.mono ?_
    rintro e w1 ⟨rfl, hb⟩
    have HM := hid (prmust_bad w1.heap.size 2 (w1.alloc (.cells #[.int .i64 2] 25)) ((Blk.new w1 [.int .i64 2] 25).cell (k := 0) rfl) (by decide))
    have HB := hid (hb.trans ((below_new w1 (.cells #[.int .i64 2] 25)).mono hb.size))
    clear hb
    go_wp2_with fail
    refine HM.out.mono ?_
    rintro e w' ⟨rfl, rfl⟩
    go_wp2
    exact ⟨rfl, rfl, HB.out⟩
theorem prfar_any (off : Int) (w : World) (h0 : -9223372036854775808 ≤ off) (h1 : off ≤ 9223372036854775807) : Calls Tryz.prog 65 #[.int .i64 off] w (OrV w (if off < 1 ∨ 134217728 < off then none else some (off + 3))) := by
  by_cases h2 : off < 1
  · rw [if_pos (.inl h2)]
    show Calls Tryz.prog _ _ w (PanV w 2)
    have t1 : decide (off < 1) = true := decide_eq_true h2
    go_enter Tryz.func65, Tryz.ntmps65
    go_wp2
    exact ⟨rfl, rfl, Below.refl _ _⟩
  · by_cases h3 : 134217728 < off
    · rw [if_pos (.inr h3)]
      show Calls Tryz.prog _ _ w (PanV w 2)
      have t1 : decide (off < 1) = false := decide_eq_false h2
      have t2 : decide (134217728 < off) = true := decide_eq_true h3
      go_enter Tryz.func65, Tryz.ntmps65
      go_wp2
      exact ⟨rfl, rfl, Below.refl _ _⟩
    · rw [if_neg (by omega)]
      show Calls Tryz.prog _ _ w (RetV w (.int .i64 (off + 3)))
      have t1 : decide (off < 1) = false := decide_eq_false h2
      have t2 : decide (134217728 < off) = false := decide_eq_false h3
      have hw : IntKind.i64.wrap (off + 3) = off + 3 := by rw [IntKind.wrap_i64]; omega
      go_enter Tryz.func65, Tryz.ntmps65
      go_wp2
      go_ret
      exact ⟨rfl, Below.refl _ _⟩
set_option maxRecDepth 100000 in
set_option maxHeartbeats 2000000 in
theorem prcount_any (w : World) (M : Nat) (C : Nat → List Int) (h : PrAt w M C) (n : Int) :
    Calls Tryz.prog 159 #[.pointer (some ⟨M, 0, none⟩), .int .i64 n] w (OrV w (numC C 1 n)) := by
  obtain ⟨R, hm, hr⟩ := h.open
  have HMo := hid hm
  clear h hm
  have hdk : decide (1 = 2) = false := by decide
  unfold numC
  rw [hdk]
  clear hdk
  cases ho : codeS false (n) with
  | some c =>
    have hcl := codeS_lt ho
    have HCd := hid (fun W => prcoded_any false (n) W)
    rw [ho] at HCd
    have HCd : Hid (∀ W, Calls Tryz.prog 63 #[.func (.func 66) #[] #[], .int .i64 (n)] W (RetV W (.int .i64 (c : Int)))) := HCd
    have HAt : Hid (∀ W, Below w.heap.size w W → Calls Tryz.prog 141 #[.pointer (some ⟨R, 0, none⟩), .int .i64 1, .int .i64 (c : Int)] W fun e w' => e = .returned (.int .i64 (pcost 1 (C 1) c)) ∧ W = w') := hid (fun W (hb : Below w.heap.size w W) => prat_any W R C (hr.low hb) 1 c (by decide) hcl)
    clear ho hr hcl
    show Calls Tryz.prog _ _ w (RetV w (.int .i64 (pcost 1 (C 1) c)))
    generalize pcost 1 (C 1) c = x at *
    go_enter Tryz.func159, Tryz.ntmps159
    go_wp2_with fail
    refine wp_region_noPanic ?_
    refine wp_region_held_drew (S := fun W' => Below w.heap.size w W') (by kernel_rfl) (Below.refl _ _).drew (fun hHeld => ?_)
    refine wpAnyH_take (i := 0) (v := .pointer (some ⟨M, 0, none⟩)) (by simp only [List.getElem?_toArray, List.getElem?_cons_zero]; rfl) (by kernel_rfl) (by kernel_rfl) (by kernel_rfl) (fun _ _ _ h => h) (Or.inl ⟨by rfl, fun W hSw => ?_⟩) (by assumption) ?_
    · clear hSw
      go_simp
    simp only [Act.put, List.setIfInBounds_toArray, List.set_cons_zero, List.set_cons_succ]
    refine wpAnyH_take (i := 1) (v := .pointer (some ⟨M, 0, none⟩)) (by simp only [List.getElem?_toArray, List.getElem?_cons_zero, List.getElem?_cons_succ]; rfl) (by kernel_rfl) (by kernel_rfl) (by kernel_rfl) (fun _ _ _ h => h) (Or.inl ⟨by rfl, fun W hSw => ?_⟩) (by assumption) ?_
    · clear hSw
      go_simp
    simp only [Act.put, List.setIfInBounds_toArray, List.set_cons_zero, List.set_cons_succ]
    refine wpAnyH_take (i := 2) (v := .pointer (some ⟨M, 0, none⟩)) (by simp only [List.getElem?_toArray, List.getElem?_cons_zero, List.getElem?_cons_succ]; rfl) (by kernel_rfl) (by kernel_rfl) (by kernel_rfl) (fun _ _ _ h => h) (Or.inl ⟨by rfl, fun W hSw => ?_⟩) (by assumption) ?_
    · clear hSw
      go_simp
    simp only [Act.put, List.setIfInBounds_toArray, List.set_cons_zero, List.set_cons_succ]
    refine wpAnyH_take (i := 3) (v := .pointer (some ⟨R, 0, none⟩)) (by simp only [List.getElem?_toArray, List.getElem?_cons_zero, List.getElem?_cons_succ]; rfl) (by kernel_rfl) (by kernel_rfl) (by kernel_rfl) (fun _ _ _ h => h) (Or.inl ⟨by rfl, fun W hSw => ?_⟩) (by assumption) ?_
    · have hcw := (hSw.cell (p := ⟨M, 0, none⟩) HMo.out.lt).trans (HMo.out.cell (k := 0) rfl)
      go_simp
    simp only [Act.put, List.setIfInBounds_toArray, List.set_cons_zero, List.set_cons_succ]
    refine wpAnyH_take (i := 4) (v := .int .i64 n) (by simp only [List.getElem?_toArray, List.getElem?_cons_zero, List.getElem?_cons_succ]; rfl) (by kernel_rfl) (by kernel_rfl) (by kernel_rfl) (fun _ _ _ h => h) (Or.inl ⟨by rfl, fun W hSw => ?_⟩) (by assumption) ?_
    · clear hSw
      go_simp
    simp only [Act.put, List.setIfInBounds_toArray, List.set_cons_zero, List.set_cons_succ]
    refine wpAnyH_ready (rs := [5]) (by kernel_rfl) (by simp) ?_
    refine AllReadyH.cons (by simp only [List.getElem?_toArray, List.getElem?_cons_zero, List.getElem?_cons_succ]; rfl) (fun K hK => ?_) AllReadyH.nil
    rw [if_pos (by rfl)]
    go_simp
    go_at_call 63
    refine (HCd.out _).mono ?_
    rintro e w2 ⟨rfl, hb2⟩
    have HB2 := hid ((show Below w.heap.size w w.drew from (Below.refl _ _).drew).trans hb2)
    dsimp only
    refine hK.out _ _ HB2.out (fun _ => ?_)
    clear hK K hb2
    refine wpAnyH_ready (rs := [6]) (by kernel_rfl) (by simp) ?_
    refine AllReadyH.cons (by simp only [List.getElem?_toArray, List.getElem?_cons_zero, List.getElem?_cons_succ]; rfl) (fun K hK => ?_) AllReadyH.nil
    rw [if_pos (by rfl)]
    go_simp
    go_at_call 141
    refine (HAt.out _ HB2.out).mono ?_
    rintro e w' ⟨rfl, rfl⟩
    dsimp only
    refine hK.out _ _ HB2.out (fun _ => ?_)
    clear hK K
    refine wpAnyH_ready (rs := [7]) (by kernel_rfl) (by simp) ?_
    refine AllReadyH.cons (by simp only [List.getElem?_toArray, List.getElem?_cons_zero, List.getElem?_cons_succ]; rfl) (fun K hK => ?_) AllReadyH.nil
    rw [if_pos (by rfl)]
    go_simp
    refine hK.out _ _ HB2.out (fun _ => ?_)
    clear hK K
    refine wpAnyH_done (by kernel_rfl) ?_ _
    refine NoPanic.normal ?_
    go_wp2
    go_ret
    exact ⟨rfl, HB2.out⟩
  | none =>
    have HCd := hid (fun W => prcoded_any false (n) W)
    rw [ho] at HCd
    have HCd : Hid (∀ W, Calls Tryz.prog 63 #[.func (.func 66) #[] #[], .int .i64 (n)] W (PanV W 2)) := HCd
    clear ho hr
    show Calls Tryz.prog _ _ w (PanV w 2)
    go_enter Tryz.func159, Tryz.ntmps159
    go_wp2_with fail
    refine wp_region_held_drew (S := fun W' => Below w.heap.size w W') (by kernel_rfl) (Below.refl _ _).drew (fun hHeld => ?_)
    refine wpAnyH_take (i := 0) (v := .pointer (some ⟨M, 0, none⟩)) (by simp only [List.getElem?_toArray, List.getElem?_cons_zero]; rfl) (by kernel_rfl) (by kernel_rfl) (by kernel_rfl) (fun _ _ _ h => bp_put h) (Or.inl ⟨by rfl, fun W hSw => ?_⟩) (by assumption) ?_
    · clear hSw
      go_simp
    simp only [Act.put, List.setIfInBounds_toArray, List.set_cons_zero, List.set_cons_succ]
    refine wpAnyH_take (i := 1) (v := .pointer (some ⟨M, 0, none⟩)) (by simp only [List.getElem?_toArray, List.getElem?_cons_zero, List.getElem?_cons_succ]; rfl) (by kernel_rfl) (by kernel_rfl) (by kernel_rfl) (fun _ _ _ h => bp_put h) (Or.inl ⟨by rfl, fun W hSw => ?_⟩) (by assumption) ?_
    · clear hSw
      go_simp
    simp only [Act.put, List.setIfInBounds_toArray, List.set_cons_zero, List.set_cons_succ]
    refine wpAnyH_take (i := 2) (v := .pointer (some ⟨M, 0, none⟩)) (by simp only [List.getElem?_toArray, List.getElem?_cons_zero, List.getElem?_cons_succ]; rfl) (by kernel_rfl) (by kernel_rfl) (by kernel_rfl) (fun _ _ _ h => bp_put h) (Or.inl ⟨by rfl, fun W hSw => ?_⟩) (by assumption) ?_
    · clear hSw
      go_simp
    simp only [Act.put, List.setIfInBounds_toArray, List.set_cons_zero, List.set_cons_succ]
    refine wpAnyH_take (i := 3) (v := .pointer (some ⟨R, 0, none⟩)) (by simp only [List.getElem?_toArray, List.getElem?_cons_zero, List.getElem?_cons_succ]; rfl) (by kernel_rfl) (by kernel_rfl) (by kernel_rfl) (fun _ _ _ h => bp_put h) (Or.inl ⟨by rfl, fun W hSw => ?_⟩) (by assumption) ?_
    · have hcw := (hSw.cell (p := ⟨M, 0, none⟩) HMo.out.lt).trans (HMo.out.cell (k := 0) rfl)
      go_simp
    simp only [Act.put, List.setIfInBounds_toArray, List.set_cons_zero, List.set_cons_succ]
    refine wpAnyH_take (i := 4) (v := .int .i64 n) (by simp only [List.getElem?_toArray, List.getElem?_cons_zero, List.getElem?_cons_succ]; rfl) (by kernel_rfl) (by kernel_rfl) (by kernel_rfl) (fun _ _ _ h => bp_put h) (Or.inl ⟨by rfl, fun W hSw => ?_⟩) (by assumption) ?_
    · clear hSw
      go_simp
    simp only [Act.put, List.setIfInBounds_toArray, List.set_cons_zero, List.set_cons_succ]
    refine wpAnyH_ready (rs := [5]) (by kernel_rfl) (by simp) ?_
    refine AllReadyH.cons (by simp only [List.getElem?_toArray, List.getElem?_cons_zero, List.getElem?_cons_succ]; rfl) (fun K hK => ?_) AllReadyH.nil
    rw [if_pos (by rfl)]
    go_simp
    go_at_call 63
    refine (HCd.out _).mono ?_
    rintro e w2 ⟨rfl, hb2⟩
    exact ⟨rfl, rfl, (show Below w.heap.size w w.drew from (Below.refl _ _).drew).trans hb2⟩
set_option maxRecDepth 100000 in
set_option maxHeartbeats 2000000 in
theorem proff_any (w : World) (M : Nat) (C : Nat → List Int) (h : PrAt w M C) (n : Int) :
    Calls Tryz.prog 161 #[.pointer (some ⟨M, 0, none⟩), .int .i64 n] w (OrV w (numC C 2 n)) := by
  obtain ⟨R, hm, hr⟩ := h.open
  have HMo := hid hm
  clear h hm
  have hdk : decide (2 = 2) = true := by decide
  unfold numC
  rw [hdk]
  clear hdk
  cases ho : codeS true (n) with
  | some c =>
    have hcl := codeS_lt ho
    have HCd := hid (fun W => prcoded_any true (n) W)
    rw [ho] at HCd
    have HCd : Hid (∀ W, Calls Tryz.prog 63 #[.func (.func 64) #[] #[], .int .i64 (n)] W (RetV W (.int .i64 (c : Int)))) := HCd
    have HAt : Hid (∀ W, Below w.heap.size w W → Calls Tryz.prog 141 #[.pointer (some ⟨R, 0, none⟩), .int .i64 2, .int .i64 (c : Int)] W fun e w' => e = .returned (.int .i64 (pcost 2 (C 2) c)) ∧ W = w') := hid (fun W (hb : Below w.heap.size w W) => prat_any W R C (hr.low hb) 2 c (by decide) hcl)
    clear ho hr hcl
    show Calls Tryz.prog _ _ w (RetV w (.int .i64 (pcost 2 (C 2) c)))
    generalize pcost 2 (C 2) c = x at *
    go_enter Tryz.func161, Tryz.ntmps161
    go_wp2_with fail
    refine wp_region_noPanic ?_
    refine wp_region_held_drew (S := fun W' => Below w.heap.size w W') (by kernel_rfl) (Below.refl _ _).drew (fun hHeld => ?_)
    refine wpAnyH_take (i := 0) (v := .pointer (some ⟨M, 0, none⟩)) (by simp only [List.getElem?_toArray, List.getElem?_cons_zero]; rfl) (by kernel_rfl) (by kernel_rfl) (by kernel_rfl) (fun _ _ _ h => h) (Or.inl ⟨by rfl, fun W hSw => ?_⟩) (by assumption) ?_
    · clear hSw
      go_simp
    simp only [Act.put, List.setIfInBounds_toArray, List.set_cons_zero, List.set_cons_succ]
    refine wpAnyH_take (i := 1) (v := .pointer (some ⟨M, 0, none⟩)) (by simp only [List.getElem?_toArray, List.getElem?_cons_zero, List.getElem?_cons_succ]; rfl) (by kernel_rfl) (by kernel_rfl) (by kernel_rfl) (fun _ _ _ h => h) (Or.inl ⟨by rfl, fun W hSw => ?_⟩) (by assumption) ?_
    · clear hSw
      go_simp
    simp only [Act.put, List.setIfInBounds_toArray, List.set_cons_zero, List.set_cons_succ]
    refine wpAnyH_take (i := 2) (v := .pointer (some ⟨M, 0, none⟩)) (by simp only [List.getElem?_toArray, List.getElem?_cons_zero, List.getElem?_cons_succ]; rfl) (by kernel_rfl) (by kernel_rfl) (by kernel_rfl) (fun _ _ _ h => h) (Or.inl ⟨by rfl, fun W hSw => ?_⟩) (by assumption) ?_
    · clear hSw
      go_simp
    simp only [Act.put, List.setIfInBounds_toArray, List.set_cons_zero, List.set_cons_succ]
    refine wpAnyH_take (i := 3) (v := .pointer (some ⟨R, 0, none⟩)) (by simp only [List.getElem?_toArray, List.getElem?_cons_zero, List.getElem?_cons_succ]; rfl) (by kernel_rfl) (by kernel_rfl) (by kernel_rfl) (fun _ _ _ h => h) (Or.inl ⟨by rfl, fun W hSw => ?_⟩) (by assumption) ?_
    · have hcw := (hSw.cell (p := ⟨M, 0, none⟩) HMo.out.lt).trans (HMo.out.cell (k := 0) rfl)
      go_simp
    simp only [Act.put, List.setIfInBounds_toArray, List.set_cons_zero, List.set_cons_succ]
    refine wpAnyH_take (i := 4) (v := .int .i64 n) (by simp only [List.getElem?_toArray, List.getElem?_cons_zero, List.getElem?_cons_succ]; rfl) (by kernel_rfl) (by kernel_rfl) (by kernel_rfl) (fun _ _ _ h => h) (Or.inl ⟨by rfl, fun W hSw => ?_⟩) (by assumption) ?_
    · clear hSw
      go_simp
    simp only [Act.put, List.setIfInBounds_toArray, List.set_cons_zero, List.set_cons_succ]
    refine wpAnyH_ready (rs := [5]) (by kernel_rfl) (by simp) ?_
    refine AllReadyH.cons (by simp only [List.getElem?_toArray, List.getElem?_cons_zero, List.getElem?_cons_succ]; rfl) (fun K hK => ?_) AllReadyH.nil
    rw [if_pos (by rfl)]
    go_simp
    go_at_call 63
    refine (HCd.out _).mono ?_
    rintro e w2 ⟨rfl, hb2⟩
    have HB2 := hid ((show Below w.heap.size w w.drew from (Below.refl _ _).drew).trans hb2)
    dsimp only
    refine hK.out _ _ HB2.out (fun _ => ?_)
    clear hK K hb2
    refine wpAnyH_ready (rs := [6]) (by kernel_rfl) (by simp) ?_
    refine AllReadyH.cons (by simp only [List.getElem?_toArray, List.getElem?_cons_zero, List.getElem?_cons_succ]; rfl) (fun K hK => ?_) AllReadyH.nil
    rw [if_pos (by rfl)]
    go_simp
    go_at_call 141
    refine (HAt.out _ HB2.out).mono ?_
    rintro e w' ⟨rfl, rfl⟩
    dsimp only
    refine hK.out _ _ HB2.out (fun _ => ?_)
    clear hK K
    refine wpAnyH_ready (rs := [7]) (by kernel_rfl) (by simp) ?_
    refine AllReadyH.cons (by simp only [List.getElem?_toArray, List.getElem?_cons_zero, List.getElem?_cons_succ]; rfl) (fun K hK => ?_) AllReadyH.nil
    rw [if_pos (by rfl)]
    go_simp
    refine hK.out _ _ HB2.out (fun _ => ?_)
    clear hK K
    refine wpAnyH_done (by kernel_rfl) ?_ _
    refine NoPanic.normal ?_
    go_wp2
    go_ret
    exact ⟨rfl, HB2.out⟩
  | none =>
    have HCd := hid (fun W => prcoded_any true (n) W)
    rw [ho] at HCd
    have HCd : Hid (∀ W, Calls Tryz.prog 63 #[.func (.func 64) #[] #[], .int .i64 (n)] W (PanV W 2)) := HCd
    clear ho hr
    show Calls Tryz.prog _ _ w (PanV w 2)
    go_enter Tryz.func161, Tryz.ntmps161
    go_wp2_with fail
    refine wp_region_held_drew (S := fun W' => Below w.heap.size w W') (by kernel_rfl) (Below.refl _ _).drew (fun hHeld => ?_)
    refine wpAnyH_take (i := 0) (v := .pointer (some ⟨M, 0, none⟩)) (by simp only [List.getElem?_toArray, List.getElem?_cons_zero]; rfl) (by kernel_rfl) (by kernel_rfl) (by kernel_rfl) (fun _ _ _ h => bp_put h) (Or.inl ⟨by rfl, fun W hSw => ?_⟩) (by assumption) ?_
    · clear hSw
      go_simp
    simp only [Act.put, List.setIfInBounds_toArray, List.set_cons_zero, List.set_cons_succ]
    refine wpAnyH_take (i := 1) (v := .pointer (some ⟨M, 0, none⟩)) (by simp only [List.getElem?_toArray, List.getElem?_cons_zero, List.getElem?_cons_succ]; rfl) (by kernel_rfl) (by kernel_rfl) (by kernel_rfl) (fun _ _ _ h => bp_put h) (Or.inl ⟨by rfl, fun W hSw => ?_⟩) (by assumption) ?_
    · clear hSw
      go_simp
    simp only [Act.put, List.setIfInBounds_toArray, List.set_cons_zero, List.set_cons_succ]
    refine wpAnyH_take (i := 2) (v := .pointer (some ⟨M, 0, none⟩)) (by simp only [List.getElem?_toArray, List.getElem?_cons_zero, List.getElem?_cons_succ]; rfl) (by kernel_rfl) (by kernel_rfl) (by kernel_rfl) (fun _ _ _ h => bp_put h) (Or.inl ⟨by rfl, fun W hSw => ?_⟩) (by assumption) ?_
    · clear hSw
      go_simp
    simp only [Act.put, List.setIfInBounds_toArray, List.set_cons_zero, List.set_cons_succ]
    refine wpAnyH_take (i := 3) (v := .pointer (some ⟨R, 0, none⟩)) (by simp only [List.getElem?_toArray, List.getElem?_cons_zero, List.getElem?_cons_succ]; rfl) (by kernel_rfl) (by kernel_rfl) (by kernel_rfl) (fun _ _ _ h => bp_put h) (Or.inl ⟨by rfl, fun W hSw => ?_⟩) (by assumption) ?_
    · have hcw := (hSw.cell (p := ⟨M, 0, none⟩) HMo.out.lt).trans (HMo.out.cell (k := 0) rfl)
      go_simp
    simp only [Act.put, List.setIfInBounds_toArray, List.set_cons_zero, List.set_cons_succ]
    refine wpAnyH_take (i := 4) (v := .int .i64 n) (by simp only [List.getElem?_toArray, List.getElem?_cons_zero, List.getElem?_cons_succ]; rfl) (by kernel_rfl) (by kernel_rfl) (by kernel_rfl) (fun _ _ _ h => bp_put h) (Or.inl ⟨by rfl, fun W hSw => ?_⟩) (by assumption) ?_
    · clear hSw
      go_simp
    simp only [Act.put, List.setIfInBounds_toArray, List.set_cons_zero, List.set_cons_succ]
    refine wpAnyH_ready (rs := [5]) (by kernel_rfl) (by simp) ?_
    refine AllReadyH.cons (by simp only [List.getElem?_toArray, List.getElem?_cons_zero, List.getElem?_cons_succ]; rfl) (fun K hK => ?_) AllReadyH.nil
    rw [if_pos (by rfl)]
    go_simp
    go_at_call 63
    refine (HCd.out _).mono ?_
    rintro e w2 ⟨rfl, hb2⟩
    exact ⟨rfl, rfl, (show Below w.heap.size w w.drew from (Below.refl _ _).drew).trans hb2⟩
set_option maxRecDepth 100000 in
set_option maxHeartbeats 2000000 in
theorem prlen_any (w : World) (M : Nat) (C : Nat → List Int) (h : PrAt w M C) (n : Int) (hn0 : -9223372036854775808 ≤ n) (hn1 : n ≤ 9223372036854775807) :
    Calls Tryz.prog 162 #[.pointer (some ⟨M, 0, none⟩), .int .i64 n] w (OrV w (lenC C n)) := by
  unfold lenC
  by_cases h3 : n < 3
  · rw [if_pos h3]
    show Calls Tryz.prog _ _ w (PanV w 2)
    clear h hn0 hn1
    go_enter Tryz.func162, Tryz.ntmps162
    go_wp2
    exact ⟨rfl, rfl, Below.refl _ _⟩
  rw [if_neg h3]
  have hw3 : IntKind.i64.wrap (n - 3) = n - 3 := by rw [IntKind.wrap_i64]; omega
  obtain ⟨R, hm, hr⟩ := h.open
  have HMo := hid hm
  clear h hm
  have hdk : decide (3 = 2) = false := by decide
  unfold numC
  rw [hdk]
  clear hdk
  cases ho : codeS false (n - 3) with
  | some c =>
    have hcl := codeS_lt ho
    have HCd := hid (fun W => prcoded_any false (n - 3) W)
    rw [ho] at HCd
    have HCd : Hid (∀ W, Calls Tryz.prog 63 #[.func (.func 66) #[] #[], .int .i64 (n - 3)] W (RetV W (.int .i64 (c : Int)))) := HCd
    have HAt : Hid (∀ W, Below w.heap.size w W → Calls Tryz.prog 141 #[.pointer (some ⟨R, 0, none⟩), .int .i64 3, .int .i64 (c : Int)] W fun e w' => e = .returned (.int .i64 (pcost 3 (C 3) c)) ∧ W = w') := hid (fun W (hb : Below w.heap.size w W) => prat_any W R C (hr.low hb) 3 c (by decide) hcl)
    clear ho hr hcl
    show Calls Tryz.prog _ _ w (RetV w (.int .i64 (pcost 3 (C 3) c)))
    generalize pcost 3 (C 3) c = x at *
    go_enter Tryz.func162, Tryz.ntmps162
    go_wp2_with fail
    refine wp_region_noPanic ?_
    refine wp_region_held_drew (S := fun W' => Below w.heap.size w W') (by kernel_rfl) (Below.refl _ _).drew (fun hHeld => ?_)
    refine wpAnyH_take (i := 0) (v := .pointer (some ⟨M, 0, none⟩)) (by simp only [List.getElem?_toArray, List.getElem?_cons_zero]; rfl) (by kernel_rfl) (by kernel_rfl) (by kernel_rfl) (fun _ _ _ h => h) (Or.inl ⟨by rfl, fun W hSw => ?_⟩) (by assumption) ?_
    · clear hSw
      go_simp
    simp only [Act.put, List.setIfInBounds_toArray, List.set_cons_zero, List.set_cons_succ]
    refine wpAnyH_take (i := 1) (v := .pointer (some ⟨M, 0, none⟩)) (by simp only [List.getElem?_toArray, List.getElem?_cons_zero, List.getElem?_cons_succ]; rfl) (by kernel_rfl) (by kernel_rfl) (by kernel_rfl) (fun _ _ _ h => h) (Or.inl ⟨by rfl, fun W hSw => ?_⟩) (by assumption) ?_
    · clear hSw
      go_simp
    simp only [Act.put, List.setIfInBounds_toArray, List.set_cons_zero, List.set_cons_succ]
    refine wpAnyH_take (i := 2) (v := .pointer (some ⟨M, 0, none⟩)) (by simp only [List.getElem?_toArray, List.getElem?_cons_zero, List.getElem?_cons_succ]; rfl) (by kernel_rfl) (by kernel_rfl) (by kernel_rfl) (fun _ _ _ h => h) (Or.inl ⟨by rfl, fun W hSw => ?_⟩) (by assumption) ?_
    · clear hSw
      go_simp
    simp only [Act.put, List.setIfInBounds_toArray, List.set_cons_zero, List.set_cons_succ]
    refine wpAnyH_take (i := 3) (v := .pointer (some ⟨R, 0, none⟩)) (by simp only [List.getElem?_toArray, List.getElem?_cons_zero, List.getElem?_cons_succ]; rfl) (by kernel_rfl) (by kernel_rfl) (by kernel_rfl) (fun _ _ _ h => h) (Or.inl ⟨by rfl, fun W hSw => ?_⟩) (by assumption) ?_
    · have hcw := (hSw.cell (p := ⟨M, 0, none⟩) HMo.out.lt).trans (HMo.out.cell (k := 0) rfl)
      go_simp
    simp only [Act.put, List.setIfInBounds_toArray, List.set_cons_zero, List.set_cons_succ]
    refine wpAnyH_take (i := 4) (v := .int .i64 n) (by simp only [List.getElem?_toArray, List.getElem?_cons_zero, List.getElem?_cons_succ]; rfl) (by kernel_rfl) (by kernel_rfl) (by kernel_rfl) (fun _ _ _ h => h) (Or.inl ⟨by rfl, fun W hSw => ?_⟩) (by assumption) ?_
    · clear hSw
      go_simp
    simp only [Act.put, List.setIfInBounds_toArray, List.set_cons_zero, List.set_cons_succ]
    refine wpAnyH_take (i := 5) (v := .int .i64 (n - 3)) (by simp only [List.getElem?_toArray, List.getElem?_cons_zero, List.getElem?_cons_succ]; rfl) (by kernel_rfl) (by kernel_rfl) (by kernel_rfl) (fun _ _ _ h => h) (Or.inl ⟨by rfl, fun W hSw => ?_⟩) (by assumption) ?_
    · clear hSw
      go_simp
    simp only [Act.put, List.setIfInBounds_toArray, List.set_cons_zero, List.set_cons_succ]
    refine wpAnyH_ready (rs := [6]) (by kernel_rfl) (by simp) ?_
    refine AllReadyH.cons (by simp only [List.getElem?_toArray, List.getElem?_cons_zero, List.getElem?_cons_succ]; rfl) (fun K hK => ?_) AllReadyH.nil
    rw [if_pos (by rfl)]
    go_simp
    go_at_call 63
    refine (HCd.out _).mono ?_
    rintro e w2 ⟨rfl, hb2⟩
    have HB2 := hid ((show Below w.heap.size w w.drew from (Below.refl _ _).drew).trans hb2)
    dsimp only
    refine hK.out _ _ HB2.out (fun _ => ?_)
    clear hK K hb2
    refine wpAnyH_ready (rs := [7]) (by kernel_rfl) (by simp) ?_
    refine AllReadyH.cons (by simp only [List.getElem?_toArray, List.getElem?_cons_zero, List.getElem?_cons_succ]; rfl) (fun K hK => ?_) AllReadyH.nil
    rw [if_pos (by rfl)]
    go_simp
    go_at_call 141
    refine (HAt.out _ HB2.out).mono ?_
    rintro e w' ⟨rfl, rfl⟩
    dsimp only
    refine hK.out _ _ HB2.out (fun _ => ?_)
    clear hK K
    refine wpAnyH_ready (rs := [8]) (by kernel_rfl) (by simp) ?_
    refine AllReadyH.cons (by simp only [List.getElem?_toArray, List.getElem?_cons_zero, List.getElem?_cons_succ]; rfl) (fun K hK => ?_) AllReadyH.nil
    rw [if_pos (by rfl)]
    go_simp
    refine hK.out _ _ HB2.out (fun _ => ?_)
    clear hK K
    refine wpAnyH_done (by kernel_rfl) ?_ _
    refine NoPanic.normal ?_
    go_wp2
    go_ret
    exact ⟨rfl, HB2.out⟩
  | none =>
    have HCd := hid (fun W => prcoded_any false (n - 3) W)
    rw [ho] at HCd
    have HCd : Hid (∀ W, Calls Tryz.prog 63 #[.func (.func 66) #[] #[], .int .i64 (n - 3)] W (PanV W 2)) := HCd
    clear ho hr
    show Calls Tryz.prog _ _ w (PanV w 2)
    go_enter Tryz.func162, Tryz.ntmps162
    go_wp2_with fail
    refine wp_region_held_drew (S := fun W' => Below w.heap.size w W') (by kernel_rfl) (Below.refl _ _).drew (fun hHeld => ?_)
    refine wpAnyH_take (i := 0) (v := .pointer (some ⟨M, 0, none⟩)) (by simp only [List.getElem?_toArray, List.getElem?_cons_zero]; rfl) (by kernel_rfl) (by kernel_rfl) (by kernel_rfl) (fun _ _ _ h => bp_put h) (Or.inl ⟨by rfl, fun W hSw => ?_⟩) (by assumption) ?_
    · clear hSw
      go_simp
    simp only [Act.put, List.setIfInBounds_toArray, List.set_cons_zero, List.set_cons_succ]
    refine wpAnyH_take (i := 1) (v := .pointer (some ⟨M, 0, none⟩)) (by simp only [List.getElem?_toArray, List.getElem?_cons_zero, List.getElem?_cons_succ]; rfl) (by kernel_rfl) (by kernel_rfl) (by kernel_rfl) (fun _ _ _ h => bp_put h) (Or.inl ⟨by rfl, fun W hSw => ?_⟩) (by assumption) ?_
    · clear hSw
      go_simp
    simp only [Act.put, List.setIfInBounds_toArray, List.set_cons_zero, List.set_cons_succ]
    refine wpAnyH_take (i := 2) (v := .pointer (some ⟨M, 0, none⟩)) (by simp only [List.getElem?_toArray, List.getElem?_cons_zero, List.getElem?_cons_succ]; rfl) (by kernel_rfl) (by kernel_rfl) (by kernel_rfl) (fun _ _ _ h => bp_put h) (Or.inl ⟨by rfl, fun W hSw => ?_⟩) (by assumption) ?_
    · clear hSw
      go_simp
    simp only [Act.put, List.setIfInBounds_toArray, List.set_cons_zero, List.set_cons_succ]
    refine wpAnyH_take (i := 3) (v := .pointer (some ⟨R, 0, none⟩)) (by simp only [List.getElem?_toArray, List.getElem?_cons_zero, List.getElem?_cons_succ]; rfl) (by kernel_rfl) (by kernel_rfl) (by kernel_rfl) (fun _ _ _ h => bp_put h) (Or.inl ⟨by rfl, fun W hSw => ?_⟩) (by assumption) ?_
    · have hcw := (hSw.cell (p := ⟨M, 0, none⟩) HMo.out.lt).trans (HMo.out.cell (k := 0) rfl)
      go_simp
    simp only [Act.put, List.setIfInBounds_toArray, List.set_cons_zero, List.set_cons_succ]
    refine wpAnyH_take (i := 4) (v := .int .i64 n) (by simp only [List.getElem?_toArray, List.getElem?_cons_zero, List.getElem?_cons_succ]; rfl) (by kernel_rfl) (by kernel_rfl) (by kernel_rfl) (fun _ _ _ h => bp_put h) (Or.inl ⟨by rfl, fun W hSw => ?_⟩) (by assumption) ?_
    · clear hSw
      go_simp
    simp only [Act.put, List.setIfInBounds_toArray, List.set_cons_zero, List.set_cons_succ]
    refine wpAnyH_take (i := 5) (v := .int .i64 (n - 3)) (by simp only [List.getElem?_toArray, List.getElem?_cons_zero, List.getElem?_cons_succ]; rfl) (by kernel_rfl) (by kernel_rfl) (by kernel_rfl) (fun _ _ _ h => bp_put h) (Or.inl ⟨by rfl, fun W hSw => ?_⟩) (by assumption) ?_
    · clear hSw
      go_simp
    simp only [Act.put, List.setIfInBounds_toArray, List.set_cons_zero, List.set_cons_succ]
    refine wpAnyH_ready (rs := [6]) (by kernel_rfl) (by simp) ?_
    refine AllReadyH.cons (by simp only [List.getElem?_toArray, List.getElem?_cons_zero, List.getElem?_cons_succ]; rfl) (fun K hK => ?_) AllReadyH.nil
    rw [if_pos (by rfl)]
    go_simp
    go_at_call 63
    refine (HCd.out _).mono ?_
    rintro e w2 ⟨rfl, hb2⟩
    exact ⟨rfl, rfl, (show Below w.heap.size w w.drew from (Below.refl _ _).drew).trans hb2⟩
theorem codeS_far {off : Int} (h : ¬ (off < 1 ∨ 134217728 < off)) : ∃ c, codeS true (off + 3) = some c := by
  unfold codeS
  rw [if_pos (by unfold eleast ebelow; simp; omega)]
  exact ⟨_, rfl⟩
set_option maxRecDepth 100000 in
theorem prstep_any (w : World) (M : Nat) (C : Nat → List Int) (h : PrAt w M C) (n off : Int) (hn0 : -9223372036854775808 ≤ n) (hn1 : n ≤ 9223372036854775807) (ho0 : -9223372036854775808 ≤ off) (ho1 : off ≤ 9223372036854775807) :
    Calls Tryz.prog 144 #[.pointer (some ⟨M, 0, none⟩), .int .i64 n, .int .i64 off] w (OrV w (stepC C n off)) := by
  have HF := hid (prfar_any off w ho0 ho1)
  have HO := hid (fun W (hb : Below w.heap.size w W) => proff_any W M C (h.low hb) (off + 3))
  have HL := hid (fun W (hb : Below w.heap.size w W) => prlen_any W M C (h.low hb) n hn0 hn1)
  have hok := h.ok
  unfold stepC
  by_cases hf : off < 1 ∨ 134217728 < off
  · rw [if_pos hf] at HF ⊢
    have HF : Hid (Calls Tryz.prog 65 #[.int .i64 off] w (PanV w 2)) := HF
    show Calls Tryz.prog _ _ w (PanV w 2)
    clear h hf hok hn0 hn1 ho0 ho1
    go_enter Tryz.func144, Tryz.ntmps144
    go_wp2_with fail
    refine HF.out.mono ?_
    rintro e w1 ⟨rfl, hb⟩
    go_wp2
    exact ⟨rfl, rfl, hb⟩
  · rw [if_neg hf] at HF ⊢
    have HF : Hid (Calls Tryz.prog 65 #[.int .i64 off] w (RetV w (.int .i64 (off + 3)))) := HF
    obtain ⟨c, hc⟩ := codeS_far hf
    obtain ⟨x, hx⟩ : ∃ x, numC C 2 (off + 3) = some x := by
      unfold numC
      rw [show decide (2 = 2) = true from rfl, hc]
      exact ⟨_, rfl⟩
    have hxb := numC_bounds (by decide) (hok 2 (by decide)) hx
    rw [hx] at HO ⊢
    have HO : Hid (∀ W, Below w.heap.size w W → Calls Tryz.prog 161 #[.pointer (some ⟨M, 0, none⟩), .int .i64 (off + 3)] W (RetV W (.int .i64 x))) := HO
    have hol : ∀ y, lenC C n = some y → -16384 ≤ y ∧ y ≤ 32768 := fun y hy => by
      unfold lenC at hy
      split at hy
      · cases hy
      · exact numC_bounds (by decide) (hok 3 (by decide)) hy
    cases hl : lenC C n with
    | some y =>
      have hyb := hol y hl
      rw [hl] at HL
      have HL : Hid (∀ W, Below w.heap.size w W → Calls Tryz.prog 162 #[.pointer (some ⟨M, 0, none⟩), .int .i64 n] W (RetV W (.int .i64 y))) := HL
      show Calls Tryz.prog _ _ w (RetV w (.int .i64 (x + y)))
      have hw : IntKind.i64.wrap (x + y) = x + y := by rw [IntKind.wrap_i64]; omega
      obtain ⟨hx1, hx2⟩ := hxb
      obtain ⟨hy1, hy2⟩ := hyb
      clear h hf hok hn0 hn1 ho0 ho1 hc hx hol hl
      go_enter Tryz.func144, Tryz.ntmps144
      go_wp2_with fail
      refine HF.out.mono ?_
      rintro e w1 ⟨rfl, hb⟩
      have HB1 := hid hb
      clear hb
      go_wp2_with fail
      refine (HO.out _ HB1.out).mono ?_
      rintro e w2 ⟨rfl, hb⟩
      have HB2 := hid (HB1.out.trans (hb.mono HB1.out.size))
      clear hb
      go_wp2_with fail
      refine (HL.out _ HB2.out).mono ?_
      rintro e w3 ⟨rfl, hb⟩
      have HB3 := hid (HB2.out.trans (hb.mono HB2.out.size))
      clear hb
      go_wp2
      go_ret
      exact ⟨rfl, HB3.out⟩
    | none =>
      rw [hl] at HL
      have HL : Hid (∀ W, Below w.heap.size w W → Calls Tryz.prog 162 #[.pointer (some ⟨M, 0, none⟩), .int .i64 n] W (PanV W 2)) := HL
      show Calls Tryz.prog _ _ w (PanV w 2)
      clear h hf hok hn0 hn1 ho0 ho1 hc hx hol hl hxb
      go_enter Tryz.func144, Tryz.ntmps144
      go_wp2_with fail
      refine HF.out.mono ?_
      rintro e w1 ⟨rfl, hb⟩
      have HB1 := hid hb
      clear hb
      go_wp2_with fail
      refine (HO.out _ HB1.out).mono ?_
      rintro e w2 ⟨rfl, hb⟩
      have HB2 := hid (HB1.out.trans (hb.mono HB1.out.size))
      clear hb
      go_wp2_with fail
      refine (HL.out _ HB2.out).mono ?_
      rintro e w3 ⟨rfl, hb⟩
      have HB3 := hid (HB2.out.trans (hb.mono HB2.out.size))
      clear hb
      go_wp2
      exact ⟨rfl, rfl, HB3.out⟩
end Go.Proofs.YtlgablepckmogaaGreat
