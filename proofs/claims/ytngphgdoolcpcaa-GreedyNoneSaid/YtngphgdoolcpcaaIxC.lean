/-
  The walks of layer 27, third part: Previous, the chain of earlier positions, its iterator.
-/
import Derived.Test.YtngphgdoolcpcaaIxB
import Derived.Test.YtngphgdoolcpcaaMem
import Derived.OwnWalkIn
import Derived.TacticsInMore
import Derived.LoopNIn
import Derived.LoopIn
import Derived.WalkMore
namespace Go.Port
open Go.RowKit

/-- The cells in the blocks of X that lay lie. -/
def TrX (X : Nat → Prop) (W W' : World) : Prop := ∀ (a : Addr) (u : Value), X a.block → W.cell? a = some u → W'.cell? a = some u
theorem TrX.refl (X : Nat → Prop) (W : World) : TrX X W W := fun _ _ _ h => h
theorem TrX.trans {X : Nat → Prop} {A B C : World} (h : TrX X A B) (k : TrX X B C) : TrX X A C := fun a u ha hu => k a u ha (h a u ha hu)
theorem TrX.low {X : Nat → Prop} {A B : World} (h : Below A.heap.size A B) : TrX X A B := fun a _ _ hu => (h.cell (World.block_lt_of_cell? A a hu)).trans hu
theorem TrX.of_keeps {X : Nat → Prop} {D : Nat} {T : TypeId → Bool} {A B : World} (h : KeepsT X D T A B) : TrX X A B := fun _ _ ha hu => h.cell ha hu

/-- A slice of n elements at a that reads as cs. -/
def CellsAt (w : World) (a : Option Addr) (cs : List Value) : Prop := ∀ j u, cs[j]? = some u → ∃ bl off, a = some ⟨bl, off, none⟩ ∧ bl < w.heap.size ∧ w.cell? ⟨bl, off + j, none⟩ = some u
theorem CellsAt.low {w w' : World} {a : Option Addr} {cs : List Value} (h : CellsAt w a cs) (hb : Below w.heap.size w w') : CellsAt w' a cs := at_same h hb
theorem Sl.cells' {w : World} {sz n : Nat} {a : Option Addr} {m c : Nat} {v : Value} {cs : List Value} (h : Sl w sz v n cs) (hv : v = .slice a m c) : CellsAt w a cs := by
  obtain ⟨a', c', e, _, _, _, h5⟩ := h.open
  rw [hv] at e
  cases e
  exact h5
theorem Sl.cap {w : World} {sz n : Nat} {a : Option Addr} {m c : Nat} {v : Value} {cs : List Value} (h : Sl w sz v n cs) (hv : v = .slice a m c) : n ≤ c ∧ (a = none → c = 0) := by
  obtain ⟨a', c', e, h1, _, h3, h5⟩ := h.open
  rw [hv] at e
  cases e
  exact ⟨h1, h3⟩

/-- The index of bytes bs lies at X. -/
structure IxAt (tix : TypeId) (bs : List UInt8) (X : Nat) (W : World) : Prop where
  ex : ∃ vb m1 m2 ap cp, Blk W X [vb, .int .i64 3, .map (some m1), .map (some m2), .slice ap (bs.length - 2) cp] tix ∧ bs.length - 2 ≤ cp ∧ CellsAt W ap ((prevL bs (bs.length - 2)).map iv)
theorem IxAt.low {tix : TypeId} {bs : List UInt8} {X : Nat} {W W' : World} (h : IxAt tix bs X W) (hb : Below W.heap.size W W') : IxAt tix bs X W' := by
  obtain ⟨vb, m1, m2, ap, cp, h1, h2, h3⟩ := h.ex
  exact ⟨vb, m1, m2, ap, cp, h1.below hb h1.lt, h2, h3.low hb⟩
theorem IxAt.lt {tix : TypeId} {bs : List UInt8} {X : Nat} {W : World} (h : IxAt tix bs X W) : X < W.heap.size := by
  obtain ⟨vb, m1, m2, ap, cp, h1, h2, h3⟩ := h.ex
  exact h1.lt
theorem IxAt.of_built {B base X m1 m2 : Nat} {bs : List UInt8} {tix t8 ti : TypeId} {w wr : World} {vb vp : Value} (h : IxR B base X m1 m2 bs tix t8 ti w (bs.length - 2) vb vp wr) : IxAt tix bs X wr := by
  obtain ⟨ap, cp, rfl⟩ := own_slice h.rp
  exact ⟨vb, m1, m2, ap, cp, h.ix, ((Sl.of_owns h.rp).cap rfl).1, (Sl.of_owns h.rp).cells' rfl⟩

/-- The last earlier position with the same key, where there is a key. -/
def prevO (bs : List UInt8) (p : Int) : Option Nat := if 0 ≤ p ∧ p + 3 ≤ (bs.length : Int) then (hits bs p.toNat).head? else none
/-- All of them. -/
def chainS (bs : List UInt8) (p : Int) : List Nat := if 0 ≤ p ∧ p + 3 ≤ (bs.length : Int) then hits bs p.toNat else []
theorem chainS_head (bs : List UInt8) (p : Int) : (chainS bs p).head? = prevO bs p := by
  unfold chainS prevO
  split <;> rfl
theorem chainS_cons {bs : List UInt8} {p : Int} {q : Nat} {r : List Nat} (h : chainS bs p = q :: r) : (q : Int) < p ∧ r = chainS bs (q : Int) := by
  unfold chainS at h ⊢
  split at h
  · rename_i hc
    obtain ⟨h1, _, h3⟩ := hits_cons h
    rw [if_pos (by omega), Int.toNat_natCast]
    exact ⟨by omega, h3⟩
  · cases h
theorem chainS_length (bs : List UInt8) (p : Int) : (chainS bs p).length ≤ bs.length := by
  unfold chainS
  split
  · have := hitsGo_length bs (key3 bs p.toNat) p.toNat
    unfold hits
    omega
  · simp
def natI (p : Nat) : Value := .int .i64 (p : Int)
def optI (o : Option Nat) : Value := .tuple #[.int .i64 ((o.getD 0 : Nat) : Int), .bool o.isSome]
end Go.Port
namespace Go.Proofs.Ytngphgdoolcpcaa
open Go.RowKit Go.Port

attribute [local go_sem] Oper.semAt_some

set_option maxHeartbeats 800000 in
theorem xhas_any (bs : List UInt8) (X : Nat) (p : Int) (w : World) (hn : bs.length ≤ 1000000) (h : IxAt 119 bs X w) :
    Calls Try.prog 84 #[.pointer (some ⟨X, 0, none⟩), .int .i64 p] w fun e w' => e = .returned (.bool (decide (0 ≤ p) && decide (p + 3 ≤ (bs.length : Int)))) ∧ w = w' := by
  obtain ⟨vb, m1, m2, ap, cp, h1, h2, h3⟩ := h.ex
  have HN := hid (xnone_any X _ 3 w h1 rfl (by decide))
  have c4 := h1.cell (k := 4) rfl
  clear h h1 h3
  by_cases h0 : 0 ≤ p
  · by_cases hl : p + 3 ≤ (bs.length : Int)
    · have hd : p < ((bs.length - 2 : Nat) : Int) := by omega
      have e : (decide (0 ≤ p) && decide (p + 3 ≤ (bs.length : Int))) = true := by simp [h0, hl]
      rw [e]
      clear e
      have h0' : decide (0 ≤ p) = true := by simpa using h0
      have hd' : decide (p < ((bs.length - 2 : Nat) : Int)) = true := by simpa using hd
      clear hl
      go_enter Try.func84, Try.ntmps84
      go_wp2_with (go_at_call 64; refine HN.out.mono ?_; rintro e w' ⟨rfl, rfl⟩)
      go_ret
      exact ⟨rfl, rfl⟩
    · have hd : ¬ p < ((bs.length - 2 : Nat) : Int) := by omega
      have e : (decide (0 ≤ p) && decide (p + 3 ≤ (bs.length : Int))) = false := by simp [hl]
      rw [e]
      clear e
      have h0' : decide (0 ≤ p) = true := by simpa using h0
      have hd' : decide (p < ((bs.length - 2 : Nat) : Int)) = false := by simpa using hd
      clear hl
      go_enter Try.func84, Try.ntmps84
      go_wp2_with (go_at_call 64; refine HN.out.mono ?_; rintro e w' ⟨rfl, rfl⟩)
      go_ret
      exact ⟨rfl, rfl⟩
  · have e : (decide (0 ≤ p) && decide (p + 3 ≤ (bs.length : Int))) = false := by simp [h0]
    rw [e]
    clear e
    have h0' : decide (0 ≤ p) = false := by simpa using h0
    go_enter Try.func84, Try.ntmps84
    go_wp2_with (go_at_call 64; refine HN.out.mono ?_; rintro e w' ⟨rfl, rfl⟩)
    go_ret
    exact ⟨rfl, rfl⟩

set_option maxHeartbeats 800000 in
theorem xprev_any (bs : List UInt8) (X : Nat) (p : Int) (w : World) (hn : bs.length ≤ 1000000) (h : IxAt 119 bs X w) :
    Calls Try.prog 71 #[.pointer (some ⟨X, 0, none⟩), .int .i64 p] w fun e w' => e = .returned (optI (prevO bs p)) ∧ w = w' := by
  have HH := hid (xhas_any bs X p w hn h)
  obtain ⟨vb, m1, m2, ap, cp, h1, h2, h3⟩ := h.ex
  have c4 := h1.cell (k := 4) rfl
  clear h h1
  by_cases hc : 0 ≤ p ∧ p + 3 ≤ (bs.length : Int)
  · obtain ⟨P, rfl⟩ : ∃ P : Nat, p = (P : Int) := ⟨p.toNat, by omega⟩
    have hP : P < bs.length - 2 := by omega
    have e : (decide (0 ≤ (P : Int)) && decide ((P : Int) + 3 ≤ (bs.length : Int))) = true := by simp; omega
    rw [e] at HH
    have he : prevO bs (P : Int) = (hits bs P).head? := by
      unfold prevO
      rw [if_pos (by omega), Int.toNat_natCast]
    obtain ⟨bl, off, rfl, hbl, hcell⟩ := h3 P (iv (prevI bs P)) (by rw [List.getElem?_map, prevL_get hP]; rfl)
    have hPI : (P : Int) < ((bs.length - 2 : Nat) : Int) := by omega
    rw [he]
    unfold prevI iv at hcell
    clear h3 e he hc
    cases hh : (hits bs P).head? with
    | none =>
      rw [hh] at hcell
      dsimp only at hcell
      clear hh
      go_enter Try.func71, Try.ntmps71
      go_wp2_with (go_at_call 84; refine HH.out.mono ?_; rintro e w' ⟨rfl, rfl⟩)
      go_ret2
      exact ⟨rfl, rfl⟩
    | some q =>
      rw [hh] at hcell
      dsimp only at hcell
      have hq0 : ¬ (q : Int) < 0 := by omega
      have hqd : decide ((q : Int) < 0) = false := decide_eq_false hq0
      clear hh
      go_enter Try.func71, Try.ntmps71
      go_wp2_with (go_at_call 84; refine HH.out.mono ?_; rintro e w' ⟨rfl, rfl⟩)
      go_ret2
      exact ⟨rfl, rfl⟩
  · have e : (decide (0 ≤ p) && decide (p + 3 ≤ (bs.length : Int))) = false := by
      rw [← Bool.not_eq_true]
      simpa using hc
    rw [e] at HH
    have he : prevO bs p = none := by
      unfold prevO
      rw [if_neg hc]
    rw [he]
    clear e he hc h3
    go_enter Try.func71, Try.ntmps71
    go_wp2_with (go_at_call 84; refine HH.out.mono ?_; rintro e w' ⟨rfl, rfl⟩)
    go_ret2
    exact ⟨rfl, rfl⟩

theorem xnext_any (bs : List UInt8) (X c : Nat) (p : Int) (w : World) (hn : bs.length ≤ 1000000) (h : IxAt 119 bs X w) (hc : w.cell? ⟨c, 0, none⟩ = some (.pointer (some ⟨X, 0, none⟩))) :
    Calls Try.prog 70 #[.int .i64 p, .pointer (some ⟨c, 0, none⟩)] w fun e w' => e = .returned (optI (prevO bs p)) ∧ w = w' := by
  have HP := hid (xprev_any bs X p w hn h)
  unfold optI at HP ⊢
  go_enter Try.func70, Try.ntmps70
  go_wp2_with (go_at_call 71; refine HP.out.mono ?_; rintro e w' ⟨rfl, rfl⟩)
  go_ret2
  exact ⟨rfl, rfl⟩
end Go.Proofs.Ytngphgdoolcpcaa
