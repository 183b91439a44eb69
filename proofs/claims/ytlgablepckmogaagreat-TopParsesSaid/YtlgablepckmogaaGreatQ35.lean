/-
  Plain laws of layer 33 (best): the candidates are matches of the data, within the window.
  Plain laws of layer 33 (best): no path is cheaper than the table says.
  Chapter 32's laws: what an argument of four slices of integers is in memory.
  Cuts of slices and a copy into an array, for the stage's theorem of layer 32.
  The walks of layer 33 (best): the minimal costs of the reference.
  Chapter 33's laws: what is known of a finder and a cost model, with the reference ones beside them.
  The walks of layer 33 (best): Parse.
-/
import Derived.Test.YtlgablepckmogaaGreatQ25
import Derived.Test.YtlgablepckmogaaGreatQ26
import Derived.Test.YtlgablepckmogaaGreatQ31
import Derived.Test.YtlgablepckmogaaGreatQ02
import Derived.Test.YtlgablepckmogaaGreatQ28
import Derived.Test.YtlgablepckmogaaGreatQ12
import Derived.Test.YtlgablepckmogaaGreatQ34
import Derived.Test.YtlgablepckmogaaGreatQ24
import Derived.LoopIn
import Derived.Deep.LoopGhost
import Derived.WalkMore
import Derived.Laws.IdiomArrays
import Derived.Laws.CopyRow
import Derived.Laws.CopyOwn
import Derived.Deep.Slices
import Derived.ChangeSame
import Derived.StillTailTactics
import Derived.BigQuiet
import Derived.LoopN
namespace Go.Port
open Go.RowKit
theorem rise_mem (l : List Sq) : ∀ (f : Nat) (last longest : Int) (x : Sq), x ∈ riseGo f l last longest → longest < x.len ∧ ∃ y ∈ l, x = ⟨0, y.len, y.off⟩ := by
  intro f
  induction f with
  | zero => intro last longest x h; simp [riseGo] at h
  | succ f ih =>
    intro last longest x h
    have hn := nextGo_spec l last l none (fun y hy => by cases hy)
    unfold riseGo at h
    cases he : nextGo l last none l with
    | none => rw [he] at h; simp at h
    | some y =>
      obtain ⟨h1, _⟩ := hn.2 y he
      have hy : y ∈ l := by simpa using h1
      rw [he] at h
      dsimp only at h
      split at h
      · rename_i hlt
        rcases List.mem_cons.1 h with rfl | h
        · exact ⟨hlt, y, hy, rfl⟩
        · have := ih _ _ x h
          exact ⟨by omega, this.2⟩
      · exact ih _ _ x h
/-- A match at a position of the data: where it lies, and that its bytes are those at its offset. -/
structure MatchAt (B : List UInt8) (A : Nat) (W : Int) (p : Int) (s : Sq) : Prop where
  ex : ∃ P n d : Nat, p = (P : Int) ∧ s = ⟨0, n, d⟩ ∧ 3 ≤ n ∧ 1 ≤ d ∧ d ≤ A + P ∧ (d : Int) ≤ W ∧ A + P + n ≤ B.length ∧ (∀ k, k < n → B[A + P + k]? = B[A + P + k - d]?)
theorem MatchAt.short {B : List UInt8} {A : Nat} {W p : Int} {s : Sq} (h : MatchAt B A W p s) {k : Int} (h3 : 3 ≤ k) (hk : k ≤ s.len) : MatchAt B A W p ⟨0, k, s.off⟩ := by
  obtain ⟨P, n, d, rfl, rfl, h1, h2, h4, h5, h6, h7⟩ := h.ex
  dsimp only at hk
  exact ⟨P, k.toNat, d, rfl, by rw [show (k.toNat : Int) = k from by omega], by omega, h2, h4, h5, by omega, fun j hj => h7 j (by omega)⟩
theorem allS_is {B : List UInt8} {A : Nat} {W D p : Int} {s : Sq} (h : s ∈ allS B A W D p) : MatchAt B A W p s := by
  unfold allS at h
  split at h
  · rename_i hp
    obtain ⟨P, rfl⟩ : ∃ P : Nat, p = (P : Int) := ⟨p.toNat, by omega⟩
    unfold incS at h
    obtain ⟨h3, y, hm, rfl⟩ := rise_mem _ _ _ _ _ h
    obtain ⟨x, hx, he, rfl⟩ := matchesS_mem hm
    obtain ⟨q, hq, rfl⟩ := List.mem_map.1 hx
    have hq : q ∈ candS B (A + P) W D := by
      unfold candL at hq
      rw [if_pos hp, Int.toNat_natCast] at hq
      exact hq
    obtain ⟨c1, c2, c3, c4⟩ := candS_mem hq
    have hl : lenS B ((A : Int) + (P : Int)) (q : Int) (B.length : Int) = cpl (B.length : Int).toNat (B.drop ((A : Int) + (P : Int)).toNat) (B.drop (q : Int).toNat) := by unfold lenS; rw [he]; rfl
    dsimp only at h3 ⊢
    rw [hl] at h3 ⊢
    rw [show ((A : Int) + (P : Int)).toNat = A + P from by omega] at h3 ⊢
    simp only [Int.toNat_natCast] at h3 ⊢
    have h1 := cpl_le B.length (B.drop (A + P)) (B.drop q)
    have h2 := cpl_eq B.length (B.drop (A + P)) (B.drop q)
    generalize cpl B.length (B.drop (A + P)) (B.drop q) = N at *
    rw [List.length_drop, List.length_drop] at h1
    refine ⟨P, N, A + P - q, rfl, ?_, by omega, by omega, by omega, by omega, by omega, fun k hk => ?_⟩
    · congr 1
      omega
    · have := h2 k hk
      rw [List.getElem?_drop, List.getElem?_drop] at this
      rw [this]
      congr 1
      omega
  · cases h
theorem bGo_mem : ∀ (l : List Sq) (n : Int) (s : Sq), s ∈ bGo n l → ∃ x ∈ l, ∃ k, n ≤ k ∧ k ≤ x.len ∧ s = ⟨0, k, x.off⟩ := by
  intro l
  induction l with
  | nil => intro n s h; cases h
  | cons y r ih =>
    intro n s h
    rcases List.mem_append.1 (show s ∈ (span n (min 64 y.len)).map (fun k => (⟨0, k, y.off⟩ : Sq)) ++ bGo (max n (min 64 y.len + 1)) r from h) with h | h
    · obtain ⟨k, hk, rfl⟩ := List.mem_map.1 h
      have := span_mem hk
      exact ⟨y, List.mem_cons_self, k, by omega, by omega, rfl⟩
    · obtain ⟨x, hx, k, h1, h2, h3⟩ := ih _ _ h
      exact ⟨x, List.mem_cons_of_mem _ hx, k, by omega, h2, h3⟩
theorem bLast_mem : ∀ (l : List Sq), l ≠ [] → bLast l ∈ l := by
  intro l
  induction l with
  | nil => intro h; exact absurd rfl h
  | cons s r ih =>
    intro _
    cases r with
    | nil => exact List.mem_cons_self
    | cons t r => rw [bLast_cons2]; exact List.mem_cons_of_mem _ (ih (by simp))
theorem steps_is {B : List UInt8} {A : Nat} {W D p : Int} {s : Sq} (h : s ∈ bSteps (allS B A W D p)) : MatchAt B A W p s := by
  unfold bSteps at h
  rcases List.mem_append.1 h with h | h
  · obtain ⟨x, hx, k, h1, h2, rfl⟩ := bGo_mem _ _ _ h
    exact (allS_is hx).short h1 h2
  · split at h
    · rename_i hl
      rcases List.mem_singleton.1 h with rfl
      refine allS_is (bLast_mem _ (fun h0 => ?_))
      rw [h0] at hl
      exact absurd hl (by decide)
    · cases h
theorem choices_ok {B : List UInt8} {A : Nat} {W D : Int} (hA : A ≤ B.length) (hW : W ≤ 134217728) : Choices (B.drop A).length (fun i => bSteps (allS B A W D i)) := by
  refine ⟨fun i s hs => ?_⟩
  obtain ⟨P, n, d, rfl, rfl, h1, h2, h4, h5, h6, h7⟩ := (steps_is hs).ex
  rw [List.length_drop]
  dsimp only
  omega
end Go.Port
namespace Go.Port
open Go.RowKit Go.Proofs.YtlgablepckmogaaGreat
section
variable (C : Nat → List Int) (data : List UInt8) (ch : Int → List Sq)
/-- The least cost from an index on. -/
def least (i : Nat) : Int := costAt (tab C data ch data.length data.length) i
variable (hC : ∀ k, k < 4 → HistOk k (C k)) (hch : Choices data.length ch) (hn : data.length ≤ 131072)
include hC hch hn
end
end Go.Port
namespace Go.Proofs.YtlgablepckmogaaGreat
open Go.RowKit Go.Port
theorem Rs.four {w : World} {v : Value} {l : List Int} (h : Rs w 1 v l.length (l.map (Value.int .i64))) : ∃ a c, v = .slice a l.length c ∧ l.length ≤ c ∧ c ≤ maxLen ∧ (a = none → c = 0) ∧ Cs w a (l.map iv) := by
  obtain ⟨_, a, c, h1, h2, h3, h4, h5⟩ := h
  exact ⟨a, c, h1, h2, h3, h4, h5⟩
end Go.Proofs.YtlgablepckmogaaGreat
namespace Go.Port
open Go.RowKit
theorem run_cut {P : Program} {t e : TypeId} {i : TypeInfo} (ht : P.underlying t = some (.slice e)) (hi : P.info? e = some i) (ad : Option Addr) (n c : Nat) (low high : Option Value) (l h : Nat)
    (hb : ∀ W, (Instr.sliceBounds true n c low high none).run P W = .ok (l, h, c) W) (W : World) :
    (Instr.slice t (.slice ad n c) low high none).run P W = .ok (.slice (if c = l then ad else ad.map (·.add (l * i.size))) (h - l) (c - l)) W := by
  simp [Instr.slice, run_underlying ht, hb, sizeOf, typeInfo, hi]
theorem bounds_lo {P : Program} (n c l : Nat) (hl : l ≤ n) (W : World) : (Instr.sliceBounds true n c (some (.int .i64 (l : Int))) none none).run P W = .ok (l, n, c) W := by
  simp [Instr.sliceBounds, Instr.sliceBound, asIntOf]
  intro h2
  omega
/-- The address of a cut. -/
def cutA (ad : Option Addr) (c l sz : Nat) : Option Addr := if c = l then ad else ad.map (·.add (l * sz))
theorem cutA_none {ad : Option Addr} {c l sz : Nat} (had : ad = none → c = 0) (h : cutA ad c l sz = none) : c - l = 0 := by
  unfold cutA at h
  split at h
  · omega
  · cases ad with
    | none => have := had rfl; omega
    | some a => cases h
end Go.Port
namespace Go.Proofs.YtlgablepckmogaaGreat
open Go.RowKit Go.Port
theorem info_size {P : Program} {e : TypeId} {n : Nat} (h : (P.info? e).map (·.size) = some n) : ∃ i, P.info? e = some i ∧ i.size = n := by
  cases e' : P.info? e with
  | none => rw [e'] at h; cases h
  | some i => rw [e'] at h; exact ⟨i, rfl, by simpa using h⟩
theorem cut_u8_lo (ad : Option Addr) (n c h : Nat) (hh : h ≤ n) (W : World) : (Instr.slice 22 (.slice ad n c) (some (.int .i64 (h : Int))) none none).run Tryz.prog W = .ok (.slice (cutA ad c h 1) (n - h) (c - h)) W := by
  obtain ⟨i, h1, h2⟩ := info_size (P := Tryz.prog) (e := 5) (n := 1) (by kernel_rfl)
  have := run_cut Tryz.underlying22 h1 ad n c (some (.int .i64 (h : Int))) none h n (bounds_lo n c h hh) W
  rw [h2] at this
  exact this
end Go.Proofs.YtlgablepckmogaaGreat
namespace Go.Proofs.YtlgablepckmogaaGreat
open Go.RowKit Go.Port
attribute [local go_sem] Oper.semAt_some
/-- Where the reference's loops stand: its row of costs. -/
structure RcIn (w3 w8 : World) (G : Nat) (cs : List Int) (W : World) : Prop where
  low : Below w3.heap.size w3 W
  sz : w8.heap.size ≤ W.heap.size
  kp : ∀ b, b < w8.heap.size → b ≠ G → W.heap[b]? = w8.heap[b]?
  c : Blk W G (cs.map iv) 3
theorem RcIn.on {w3 w8 : World} {G : Nat} {cs : List Int} {W W' : World} (h : RcIn w3 w8 G cs W) (hb : Below W.heap.size W W') : RcIn w3 w8 G cs W' :=
  ⟨h.low.trans (hb.mono h.low.size), Nat.le_trans h.sz hb.size, fun b h1 h2 => (hb.block b (Nat.lt_of_lt_of_le h1 h.sz)).trans (h.kp b h1 h2), h.c.below hb h.c.lt⟩
theorem RcIn.store {w3 w8 : World} {G : Nat} {cs : List Int} {W : World} (h : RcIn w3 w8 G cs W) (hG : w3.heap.size ≤ G) (i : Nat) (v : Int) : RcIn w3 w8 G (cs.set i v) (W.setCell ⟨G, i, none⟩ (.int .i64 v)) := by
  refine ⟨h.low.setCell (p := ⟨G, i, none⟩) hG _, by simpa using h.sz, fun b h1 h2 => ?_, ?_⟩
  · rw [Below.heap_setCell _ _ _ _ (by dsimp only; exact h2)]
    exact h.kp b h1 h2
  · have := h.c.set i (.int .i64 v)
    rwa [show (Value.int .i64 v) = iv v from rfl, ← List.map_set] at this
theorem RcIn.cs {w3 w8 : World} {G : Nat} {cs : List Int} {W : World} (h : RcIn w3 w8 G cs W) {a : Option Addr} {vs : List Value} (hc : CellsAt w8 a vs) (hne : ∀ x, a = some x → x.block ≠ G) : CellsAt W a vs := fun j u hu => by
  obtain ⟨b, o, e, h1, h2⟩ := hc j u hu
  exact ⟨b, o, e, Nat.lt_of_lt_of_le h1 h.sz, (World.cell?_of_block (h.kp b h1 (hne _ e))).trans h2⟩
theorem RcIn.old {w3 w8 : World} {G : Nat} {cs : List Int} {W : World} (h : RcIn w3 w8 G cs W) : RcIn w3 w3 G cs W := ⟨h.low, h.low.size, fun b h1 _ => h.low.block b h1, h.c⟩
theorem RcIn.new {w3 w8 : World} {G : Nat} {cs : List Int} {W : World} (h : RcIn w3 w8 G cs W) : RcIn w3 W G cs W := ⟨h.low, Nat.le_refl _, fun _ _ _ => rfl, h.c⟩
end Go.Proofs.YtlgablepckmogaaGreat
namespace Go.Proofs.YtlgablepckmogaaGreat
open Go.RowKit Go.Port
def costF (C : Nat → List Int) (bs : List UInt8) (A : Nat) (Wd D : Int) (p : Nat) : Int := costAt (tabF C bs A Wd D) p
def planF (C : Nat → List Int) (bs : List UInt8) (A : Nat) (Wd D : Int) (p : Nat) : List Sq := planT ((tabF C bs A Wd D).drop p) 0 0
theorem isPath_mem {ch : Int → List Sq} {n : Nat} (hch : Choices n ch) : ∀ (l : List Sq) (p : Int), isPath ch n p l = true → ∀ s ∈ l, 3 ≤ s.len ∧ s.len ≤ n ∧ 1 ≤ s.off ∧ s.off ≤ 134217728 := by
  intro l
  induction l with
  | nil => intro p _ s hs; cases hs
  | cons x r ih =>
    intro p h s hs
    unfold isPath at h
    split at h
    · cases h
    · split at h
      · rename_i ha
        rcases List.mem_cons.1 hs with rfl | hs
        · obtain ⟨y, hy, hyy⟩ := List.any_eq_true.1 ha
          simp only [Bool.and_eq_true, beq_iff_eq] at hyy
          obtain ⟨c0, c1, c2, c3, c4, c5⟩ := hch.inn _ y hy
          omega
        · exact ih _ h s hs
      · cases h
/-- The plan from an index on: a path's, of the least cost. -/
theorem planF_is {C : Nat → List Int} (hC : ∀ k, k < 4 → HistOk k (C k)) {bs : List UInt8} {A : Nat} {Wd D : Int} (hA : A ≤ bs.length) (hW : Wd ≤ 134217728) (hn : (bs.drop A).length ≤ 131072) {p : Nat} (hp : p ≤ (bs.drop A).length) :
    (planF C bs A Wd D p).length ≤ (bs.drop A).length ∧ plitsO ((bs.drop A).drop p) (planF C bs A Wd D p) = true ∧ planO C ((bs.drop A).drop p) (planF C bs A Wd D p) = some (costF C bs A Wd D p) ∧ isPath (chF bs A Wd D) ((bs.drop A).length : Nat) (p : Int) (planF C bs A Wd D p) = true := by
  have hch : Choices (bs.drop A).length (chF bs A Wd D) := choices_ok hA hW
  have hl := planT_len ((tabF C bs A Wd D).drop p) 0 0
  rw [List.length_drop, tabF_length] at hl
  have hd : (tabF C bs A Wd D).drop p = tab C (bs.drop A) (chF bs A Wd D) (bs.drop A).length ((bs.drop A).length - p) := by
    have := tab_drop C (bs.drop A) (chF bs A Wd D) (bs.drop A).length ((bs.drop A).length - p) p
    rwa [Nat.sub_add_cancel hp] at this
  have hc : costF C bs A Wd D p = costAt (tab C (bs.drop A) (chF bs A Wd D) (bs.drop A).length ((bs.drop A).length - p)) 0 := costAt_tab C (bs.drop A) (chF bs A Wd D) (bs.drop A).length (bs.drop A).length p hp
  have h := planT_cost C (bs.drop A) (chF bs A Wd D) hC hch hn ((bs.drop A).length - p) 0 (by omega)
  dsimp only at h
  rw [show (bs.drop A).length - ((bs.drop A).length - p) - 0 = p from by omega, ← hd, List.take_zero, litsC_nil, Int.zero_add, hd, ← hc, ← hd] at h
  exact ⟨by unfold planF; omega, h.1, h.2.1, h.2.2⟩
/-- A finder, a cost model, and the reference ones. -/
structure BestAt (W : World) (bs : List UInt8) (A : Nat) (Wd D : Int) (F M : Nat) (ar : Option Addr) (cr : Nat) (Ar : Nat → Option Addr) (cp : Nat → Nat) (C : Nat → List Int) : Prop where
  fd : FdAt 50 79 bs A Wd D F W
  pr : PrAt W M C
  cs : CellsAt W ar (bs.map bv)
  rf : RfAt W Ar cp C
  hcr : bs.length ≤ cr
  hbl : bs.length ≤ 200
theorem BestAt.low {W : World} {bs : List UInt8} {A : Nat} {Wd D : Int} {F M : Nat} {ar : Option Addr} {cr : Nat} {Ar : Nat → Option Addr} {cp : Nat → Nat} {C : Nat → List Int} (h : BestAt W bs A Wd D F M ar cr Ar cp C) {W' : World} (hb : Below W.heap.size W W') : BestAt W' bs A Wd D F M ar cr Ar cp C := ⟨h.fd.low hb, h.pr.low hb, h.cs.low hb, h.rf.low hb, h.hcr, h.hbl⟩
theorem BestAt.hn {W : World} {bs : List UInt8} {A : Nat} {Wd D : Int} {F M : Nat} {ar : Option Addr} {cr : Nat} {Ar : Nat → Option Addr} {cp : Nat → Nat} {C : Nat → List Int} (h : BestAt W bs A Wd D F M ar cr Ar cp C) : (bs.drop A).length ≤ 200 := by
  have := h.hbl
  rw [List.length_drop]
  omega
theorem BestAt.ch {W : World} {bs : List UInt8} {A : Nat} {Wd D : Int} {F M : Nat} {ar : Option Addr} {cr : Nat} {Ar : Nat → Option Addr} {cp : Nat → Nat} {C : Nat → List Int} (h : BestAt W bs A Wd D F M ar cr Ar cp C) : Choices (bs.drop A).length (chF bs A Wd D) := choices_ok h.fd.hA h.fd.hW.2
theorem BestAt.is {W : World} {bs : List UInt8} {A : Nat} {Wd D : Int} {F M : Nat} {ar : Option Addr} {cr : Nat} {Ar : Nat → Option Addr} {cp : Nat → Nat} {C : Nat → List Int} (h : BestAt W bs A Wd D F M ar cr Ar cp C) {p : Nat} (hp : p ≤ (bs.drop A).length) : (planF C bs A Wd D p).length ≤ (bs.drop A).length ∧ plitsO ((bs.drop A).drop p) (planF C bs A Wd D p) = true ∧ planO C ((bs.drop A).drop p) (planF C bs A Wd D p) = some (costF C bs A Wd D p) ∧ isPath (chF bs A Wd D) ((bs.drop A).length : Nat) (p : Int) (planF C bs A Wd D p) = true := planF_is (C := C) (Wd := Wd) (D := D) h.pr.ok h.fd.hA h.fd.hW.2 (Nat.le_trans h.hn (by decide)) hp
theorem own_open {w : World} {base : Nat} {e : TypeId} {v : Value} {l : List Sq} (h : w.ownsRow base e 3 v l.length (l.flatMap sqc)) : ∃ al cl, v = .slice al l.length cl ∧ l.length ≤ cl ∧ CellsAt w al (l.flatMap sqc) ∧ (al = none → cl = 0) := by
  obtain ⟨al, cl, rfl⟩ := own_slice h
  refine ⟨al, cl, rfl, ?_, (own_rows h).1, ?_⟩
  · rcases (own_clip h).2 with ⟨_, h1, h2⟩ | ⟨g, _, h2⟩ <;> omega
  · rcases (own_clip h).2 with ⟨_, _, h2⟩ | ⟨g, h1, _⟩
    · exact fun _ => h2
    · intro e; rw [h1] at e; cases e
end Go.Proofs.YtlgablepckmogaaGreat
namespace Go.Proofs.YtlgablepckmogaaGreat
open Go.RowKit Go.Port
theorem own_data {w : World} {base n : Nat} {e : TypeId} {ad : Option Addr} {m c : Nat} {xs : List Value} (h : w.ownsRow base e 1 (.slice ad m c) n xs) : m = n ∧ n ≤ c ∧ (ad = none → c = 0) ∧ c ≤ maxLen ∧ CellsAt w ad xs := by
  refine ⟨?_, ?_, ?_, ?_, ?_⟩
  · rcases h.2 with ⟨h1, h2⟩ | ⟨g, cap, cur, h1, _⟩ <;> cases h1
    · exact h2.symm
    · rfl
  · rcases h.2 with ⟨h1, h2⟩ | ⟨g, cap, cur, h1, _, _, h4, _⟩ <;> cases h1
    · omega
    · exact h4
  · rcases h.2 with ⟨h1, h2⟩ | ⟨g, cap, cur, h1, _⟩ <;> cases h1
    · exact fun _ => rfl
    · intro e; cases e
  · rcases h.2 with ⟨h1, h2⟩ | ⟨g, cap, cur, h1, _, _, _, h5, _⟩ <;> cases h1
    · exact Nat.zero_le _
    · exact h5
  · exact (Sl.of_owns h).cells' rfl
theorem fdf {C : Nat → List Int} (hC : ∀ k, k < 4 → HistOk k (C k)) {bs : List UInt8} {A : Nat} {Wd D : Int} (hA : A ≤ bs.length) (hW : Wd ≤ 134217728) (hn : (bs.drop A).length ≤ 400) : plitsO (bs.drop A) (planF C bs A Wd D 0) = true ∧ (∀ s ∈ planF C bs A Wd D 0, offOk s = true) ∧ (planF C bs A Wd D 0).length ≤ 400 := by
  have h := planF_is hC (bs := bs) (A := A) (Wd := Wd) (D := D) hA hW (Nat.le_trans hn (by decide)) (p := 0) (Nat.zero_le _)
  rw [List.drop_zero] at h
  refine ⟨h.2.1, fun s hs => ?_, Nat.le_trans h.1 hn⟩
  have h2 := isPath_mem (choices_ok hA hW) _ _ h.2.2.2 s hs
  unfold offOk
  simp only [Bool.and_eq_true, decide_eq_true_eq]
  omega
def planP (bs : List UInt8) (A : Nat) (Wd D : Int) : Nat → List Int := planC (bs.drop A) (planF noC bs A Wd D 0)
set_option maxRecDepth 100000 in
set_option maxHeartbeats 8000000 in
theorem bparse_ok (bs : List UInt8) (A : Nat) (Wd D : Int) (F : Nat) (w : World) (hf : FdAt 50 79 bs A Wd D F w) (hn : (bs.drop A).length ≤ 400) :
    Calls Tryz.prog 17 #[.pointer (some ⟨F, 0, none⟩)] w fun e w' => ∃ al cl, e = .returned (.tuple #[.slice al (planF (planP bs A Wd D) bs A Wd D 0).length cl, .int .i64 0]) ∧ (planF (planP bs A Wd D) bs A Wd D 0).length ≤ cl ∧ CellsAt w' al ((planF (planP bs A Wd D) bs A Wd D 0).flatMap sqc) ∧ Below w.heap.size w w' := by
  have hA := hf.hA
  have hch : Choices (bs.drop A).length (chF bs A Wd D) := choices_ok hf.hA hf.hW.2
  have h1 := fdf noC_ok (D := D) hf.hA hf.hW.2 hn
  have HP := hid (fun W (hW : Below w.heap.size w W) M C (hM : PrAt W M C) => bpm_ok bs A Wd D F M C W (hf.low hW) hM hch)
  have HP : Hid (∀ W, Below w.heap.size w W → ∀ M C, PrAt W M C → Calls Tryz.prog 41 #[.pointer (some ⟨F, 0, none⟩), .pointer (some ⟨M, 0, none⟩)] W fun e w' => ∃ v, e = .returned (.tuple #[v, .int .i64 0]) ∧ w'.ownsRow W.heap.size 43 3 v (planF C bs A Wd D 0).length ((planF C bs A Wd D 0).flatMap sqc) ∧ Below W.heap.size W w') := HP
  have HDa := hid (fun W (hW : Below w.heap.size w W) => cdata_any bs A Wd D F W (hf.low hW))
  have hdl : bs.length - A = (bs.drop A).length := List.length_drop.symm
  rw [hdl] at HDa
  have H1 := hid h1
  have HN := hid hn
  have HPP := hid (show planC (bs.drop A) (planF noC bs A Wd D 0) = planP bs A Wd D from rfl)
  clear hf hch h1 hA hdl hn
  generalize planP bs A Wd D = CP at *
  generalize bs.drop A = data at *
  obtain ⟨L1, hL1⟩ : ∃ L1, planF noC bs A Wd D 0 = L1 := ⟨_, rfl⟩
  rw [hL1] at H1 HPP
  have HL1 := hid hL1
  clear hL1
  go_enter Tryz.func17, Tryz.ntmps17
  go_wp2_with fail
  refine (pruniform_any w).mono ?_
  rintro e w1 ⟨M0, rfl, hM0, _, hb1⟩
  have hb2 := below_new w1 (.cells #[.pointer (some ⟨M0, 0, none⟩), .pointer none] 90)
  have HM2 := hid (hM0.low hb2)
  have HT2 := hid (Blk.new w1 [.pointer (some ⟨M0, 0, none⟩), .pointer none] 90)
  have HB2 := hid (hb1.trans (hb2.mono hb1.size))
  have HG := hid hb1.size
  clear hM0 hb1 hb2
  go_wp2_with fail
  generalize w1.alloc (.cells #[.pointer (some ⟨M0, 0, none⟩), .pointer none] 90) = w2 at *
  generalize w1.heap.size = G at *
  refine wp_loop_rounds 3 ?_
  rw [rounds_succ]
  have t0 := HT2.out.cell (k := 0) rfl
  go_wp2_with fail
  clear t0
  have h1 := HP.out w2 HB2.out M0 noC HM2.out
  rw [HL1.out] at h1
  refine h1.mono ?_
  rintro e w3 ⟨v, rfl, hown, hb3⟩
  clear h1
  obtain ⟨al, cl, rfl, hlc, hcl, _⟩ := own_open hown
  have HC3 := hid (And.intro hlc hcl)
  have HT3 := hid (HT2.out.below hb3 HT2.out.lt)
  have HB3 := hid (HB2.out.trans (hb3.mono HB2.out.size))
  clear hown hlc hcl hb3 HT2 HB2 HM2
  go_wp2_with fail
  refine (HDa.out w3 HB3.out).mono ?_
  rintro e w4 ⟨v, rfl, hown, hb4⟩
  obtain ⟨ad, cd, rfl⟩ := own_slice hown
  obtain ⟨_, d1, d2, d3, d4⟩ := own_data hown
  have HT4 := hid (HT3.out.below hb4 HT3.out.lt)
  have HB4 := hid (HB3.out.trans (hb4.mono HB3.out.size))
  have HPd := hid (show PdAt w4 al cl L1 ad cd data from ⟨Nat.le_trans H1.out.2.2 (by decide), HC3.out.1, HC3.out.2.low hb4, ⟨Nat.le_trans HN.out (by decide), Nat.le_trans d3 (by decide)⟩, d1, d2, d4, Nat.le_trans HN.out (by decide)⟩)
  have HFp := hid (prfrom_ok w4 al cl L1 ad cd data HPd.out H1.out.1 H1.out.2.1)
  rw [HPP.out] at HFp
  clear hown d1 d2 d3 d4 hb4 HT3 HB3 HC3
  go_wp2_with fail
  refine HFp.out.mono ?_
  rintro e w5 ⟨M1, rfl, hM1, _, hb5⟩
  have HT5 := hid (HT4.out.below hb5 HT4.out.lt)
  have HB5 := hid (HB4.out.trans (hb5.mono HB4.out.size))
  have t1 := HT5.out.cell (k := 1) rfl
  have z1 := HT5.out.frozen 1
  have HM6 := hid (hM1.other HT5.out (k := 1) (by decide) (by decide) (by decide) (.pointer (some ⟨M1, 0, none⟩)))
  have HT6 := hid (HT5.out.set 1 (.pointer (some ⟨M1, 0, none⟩)))
  have HB6 := hid (HB5.out.setCell (p := ⟨G, 1, none⟩) HG.out (.pointer (some ⟨M1, 0, none⟩)))
  clear hM1 hb5 HT4 HB4 HFp HPd
  go_wp2_with fail
  clear t1 z1
  generalize w5.setCell ⟨G, 1, none⟩ (.pointer (some ⟨M1, 0, none⟩)) = w6 at *
  rw [rounds_succ]
  have t1 := HT6.out.cell (k := 1) rfl
  go_wp2_with fail
  clear t1
  refine (HP.out w6 HB6.out M1 CP HM6.out).mono ?_
  rintro e w7 ⟨v, rfl, hown, hb7⟩
  obtain ⟨al, cl, rfl, hlc, hcl, _⟩ := own_open hown
  have HC7 := hid (And.intro hlc hcl)
  have HB7 := hid (HB6.out.trans (hb7.mono HB6.out.size))
  clear hown hlc hcl hb7
  go_wp2
  refine bodyPost_ret (v := .tuple #[.slice al (planF CP bs A Wd D 0).length cl, .int .i64 0]) (by simp [results, Tryz.results17, go_sem]) rfl ?_
  exact ⟨al, cl, rfl, HC7.out.1, HC7.out.2, HB7.out⟩
end Go.Proofs.YtlgablepckmogaaGreat
