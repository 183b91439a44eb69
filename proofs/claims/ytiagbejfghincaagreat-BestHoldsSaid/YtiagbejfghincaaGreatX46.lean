/-
  Chapter 33's laws: what is known of a finder and a cost model, with the reference ones beside them.
  Plain laws of layers 30, 31, 33: plans made of matches found are plans of their data. No program in sight.
-/
import Derived.Test.YtiagbejfghincaaGreatX39
import Derived.Test.YtiagbejfghincaaGreatX42
import Derived.Test.YtiagbejfghincaaGreatX45
import Derived.Test.YtiagbejfghincaaGreatX29
import Derived.Test.YtiagbejfghincaaGreatX36
import Derived.Test.YtiagbejfghincaaGreatX22
import Derived.Test.YtiagbejfghincaaGreatX21
import Derived.Test.YtiagbejfghincaaGreatX23
import Derived.Test.YtiagbejfghincaaGreatX30
import Derived.BigQuiet
import Derived.LoopIn
import Derived.Deep.LoopGhost
import Derived.WalkMore
namespace Go.Proofs.YtiagbejfghincaaGreat
open Go.RowKit Go.Port
def costF (C : Nat → List Int) (bs : List UInt8) (A : Nat) (Wd D : Int) (p : Nat) : Int := costAt (tabF C bs A Wd D) p
def planF (C : Nat → List Int) (bs : List UInt8) (A : Nat) (Wd D : Int) (p : Nat) : List Sq := planT ((tabF C bs A Wd D).drop p) 0 0
theorem isPath_mem {ch : Int → List Sq} {n : Nat} (hch : Choices n ch) : ∀ (l : List Sq) (p : Int), isPath ch n p l = true → ∀ s ∈ l, 3 ≤ s.len ∧ s.len ≤ n ∧ 1 ≤ s.off ∧ s.off ≤ 134217728 := by
  intro l
  induction l with
  | nil => intro p _ s hs; cases hs
  | cons x r ih =>
    intro p h s hs
    unfold isPath at h
    split at h
    · cases h
    · split at h
      · rename_i ha
        rcases List.mem_cons.1 hs with rfl | hs
        · obtain ⟨y, hy, hyy⟩ := List.any_eq_true.1 ha
          simp only [Bool.and_eq_true, beq_iff_eq] at hyy
          obtain ⟨c0, c1, c2, c3, c4, c5⟩ := hch.inn _ y hy
          omega
        · exact ih _ h s hs
      · cases h
/-- The plan from an index on: a path's, of the least cost. -/
theorem planF_is {C : Nat → List Int} (hC : ∀ k, k < 4 → HistOk k (C k)) {bs : List UInt8} {A : Nat} {Wd D : Int} (hA : A ≤ bs.length) (hW : Wd ≤ 134217728) (hn : (bs.drop A).length ≤ 131072) {p : Nat} (hp : p ≤ (bs.drop A).length) :
    (planF C bs A Wd D p).length ≤ (bs.drop A).length ∧ plitsO ((bs.drop A).drop p) (planF C bs A Wd D p) = true ∧ planO C ((bs.drop A).drop p) (planF C bs A Wd D p) = some (costF C bs A Wd D p) ∧ isPath (chF bs A Wd D) ((bs.drop A).length : Nat) (p : Int) (planF C bs A Wd D p) = true := by
  have hch : Choices (bs.drop A).length (chF bs A Wd D) := choices_ok hA hW
  have hl := planT_len ((tabF C bs A Wd D).drop p) 0 0
  rw [List.length_drop, tabF_length] at hl
  have hd : (tabF C bs A Wd D).drop p = tab C (bs.drop A) (chF bs A Wd D) (bs.drop A).length ((bs.drop A).length - p) := by
    have := tab_drop C (bs.drop A) (chF bs A Wd D) (bs.drop A).length ((bs.drop A).length - p) p
    rwa [Nat.sub_add_cancel hp] at this
  have hc : costF C bs A Wd D p = costAt (tab C (bs.drop A) (chF bs A Wd D) (bs.drop A).length ((bs.drop A).length - p)) 0 := costAt_tab C (bs.drop A) (chF bs A Wd D) (bs.drop A).length (bs.drop A).length p hp
  have h := planT_cost C (bs.drop A) (chF bs A Wd D) hC hch hn ((bs.drop A).length - p) 0 (by omega)
  dsimp only at h
  rw [show (bs.drop A).length - ((bs.drop A).length - p) - 0 = p from by omega, ← hd, List.take_zero, litsC_nil, Int.zero_add, hd, ← hc, ← hd] at h
  exact ⟨by unfold planF; omega, h.1, h.2.1, h.2.2⟩
/-- A finder, a cost model, and the reference ones. -/
structure BestAt (W : World) (bs : List UInt8) (A : Nat) (Wd D : Int) (F M : Nat) (ar : Option Addr) (cr : Nat) (Ar : Nat → Option Addr) (cp : Nat → Nat) (C : Nat → List Int) : Prop where
  fd : FdAt 76 159 bs A Wd D F W
  pr : PrAt W M C
  cs : CellsAt W ar (bs.map bv)
  rf : RfAt W Ar cp C
  hcr : bs.length ≤ cr
  hbl : bs.length ≤ 200
theorem BestAt.low {W : World} {bs : List UInt8} {A : Nat} {Wd D : Int} {F M : Nat} {ar : Option Addr} {cr : Nat} {Ar : Nat → Option Addr} {cp : Nat → Nat} {C : Nat → List Int} (h : BestAt W bs A Wd D F M ar cr Ar cp C) {W' : World} (hb : Below W.heap.size W W') : BestAt W' bs A Wd D F M ar cr Ar cp C := ⟨h.fd.low hb, h.pr.low hb, h.cs.low hb, h.rf.low hb, h.hcr, h.hbl⟩
theorem BestAt.hn {W : World} {bs : List UInt8} {A : Nat} {Wd D : Int} {F M : Nat} {ar : Option Addr} {cr : Nat} {Ar : Nat → Option Addr} {cp : Nat → Nat} {C : Nat → List Int} (h : BestAt W bs A Wd D F M ar cr Ar cp C) : (bs.drop A).length ≤ 200 := by
  have := h.hbl
  rw [List.length_drop]
  omega
theorem BestAt.ch {W : World} {bs : List UInt8} {A : Nat} {Wd D : Int} {F M : Nat} {ar : Option Addr} {cr : Nat} {Ar : Nat → Option Addr} {cp : Nat → Nat} {C : Nat → List Int} (h : BestAt W bs A Wd D F M ar cr Ar cp C) : Choices (bs.drop A).length (chF bs A Wd D) := choices_ok h.fd.hA h.fd.hW.2
theorem BestAt.is {W : World} {bs : List UInt8} {A : Nat} {Wd D : Int} {F M : Nat} {ar : Option Addr} {cr : Nat} {Ar : Nat → Option Addr} {cp : Nat → Nat} {C : Nat → List Int} (h : BestAt W bs A Wd D F M ar cr Ar cp C) {p : Nat} (hp : p ≤ (bs.drop A).length) : (planF C bs A Wd D p).length ≤ (bs.drop A).length ∧ plitsO ((bs.drop A).drop p) (planF C bs A Wd D p) = true ∧ planO C ((bs.drop A).drop p) (planF C bs A Wd D p) = some (costF C bs A Wd D p) ∧ isPath (chF bs A Wd D) ((bs.drop A).length : Nat) (p : Int) (planF C bs A Wd D p) = true := planF_is (C := C) (Wd := Wd) (D := D) h.pr.ok h.fd.hA h.fd.hW.2 (Nat.le_trans h.hn (by decide)) hp
theorem BestAt.min {W : World} {bs : List UInt8} {A : Nat} {Wd D : Int} {F M : Nat} {ar : Option Addr} {cr : Nat} {Ar : Nat → Option Addr} {cp : Nat → Nat} {C : Nat → List Int} (h : BestAt W bs A Wd D F M ar cr Ar cp C) :
    Calls Tryz.prog 15 #[.pointer (some ⟨F, 0, none⟩), .pointer (some ⟨M, 0, none⟩)] W (RetV W (.tuple #[.int .i64 (costF C bs A Wd D 0), .int .i64 0])) := bmin_ok bs A Wd D F M C W h.fd h.pr h.ch
theorem own_open {w : World} {base : Nat} {e : TypeId} {v : Value} {l : List Sq} (h : w.ownsRow base e 3 v l.length (l.flatMap sqc)) : ∃ al cl, v = .slice al l.length cl ∧ l.length ≤ cl ∧ CellsAt w al (l.flatMap sqc) ∧ (al = none → cl = 0) := by
  obtain ⟨al, cl, rfl⟩ := own_slice h
  refine ⟨al, cl, rfl, ?_, (own_rows h).1, ?_⟩
  · rcases (own_clip h).2 with ⟨_, h1, h2⟩ | ⟨g, _, h2⟩ <;> omega
  · rcases (own_clip h).2 with ⟨_, _, h2⟩ | ⟨g, h1, _⟩
    · exact fun _ => h2
    · intro e; rw [h1] at e; cases e
theorem BestAt.model {W : World} {bs : List UInt8} {A : Nat} {Wd D : Int} {F M : Nat} {ar : Option Addr} {cr : Nat} {Ar : Nat → Option Addr} {cp : Nat → Nat} {C : Nat → List Int} (h : BestAt W bs A Wd D F M ar cr Ar cp C) :
    Calls Tryz.prog 18 #[.pointer (some ⟨F, 0, none⟩), .pointer (some ⟨M, 0, none⟩)] W fun e w' => ∃ al cl, e = .returned (.tuple #[.slice al (planF C bs A Wd D 0).length cl, .int .i64 0]) ∧ (planF C bs A Wd D 0).length ≤ cl ∧ CellsAt w' al ((planF C bs A Wd D 0).flatMap sqc) ∧ Below W.heap.size W w' := by
  refine (bpm_ok bs A Wd D F M C W h.fd h.pr h.ch).mono ?_
  rintro e w' ⟨v, rfl, h1, h2⟩
  obtain ⟨al, cl, rfl, h3, h4, _⟩ := own_open (l := planF C bs A Wd D 0) h1
  exact ⟨al, cl, rfl, h3, h4, h2⟩
theorem BestAt.pd {W : World} {bs : List UInt8} {A : Nat} {Wd D : Int} {F M : Nat} {ar : Option Addr} {cr : Nat} {Ar : Nat → Option Addr} {cp : Nat → Nat} {C : Nat → List Int} (h : BestAt W bs A Wd D F M ar cr Ar cp C) {p : Nat} (hp : p ≤ (bs.drop A).length) {w : World} {al : Option Addr} {cl : Nat} (hll : (planF C bs A Wd D p).length ≤ cl) (hcl : CellsAt w al ((planF C bs A Wd D p).flatMap sqc)) {ad : Option Addr} {c : Nat} (hc : c ≤ 9223372036854775807) (hlc : ((bs.drop A).drop p).length ≤ c) (had : ad = none → c = 0) (hd : Cs w ad (((bs.drop A).drop p).map bv)) :
    PdAt w al cl (planF C bs A Wd D p) ad c ((bs.drop A).drop p) := by
  have h1 := (h.is hp).1
  have h2 := h.hn
  have h3 : ((bs.drop A).drop p).length = (bs.drop A).length - p := List.length_drop
  exact ⟨by omega, hll, hcl, ⟨by omega, hc⟩, hlc, had, hd, by omega⟩
theorem BestAt.mem {W : World} {bs : List UInt8} {A : Nat} {Wd D : Int} {F M : Nat} {ar : Option Addr} {cr : Nat} {Ar : Nat → Option Addr} {cp : Nat → Nat} {C : Nat → List Int} (h : BestAt W bs A Wd D F M ar cr Ar cp C) {p : Nat} (hp : p ≤ (bs.drop A).length) : ∀ s ∈ planF C bs A Wd D p, 3 ≤ s.len ∧ s.len ≤ 200 ∧ 1 ≤ s.off ∧ s.off ≤ 134217728 := fun s hs => by
  have h1 := isPath_mem h.ch _ _ (h.is hp).2.2.2 s hs
  have := h.hn
  omega
end Go.Proofs.YtiagbejfghincaaGreat
namespace Go.Port
open Go.RowKit
/-- A sequence is a plan's at its place: within the data, the window, what lies behind; its bytes are those it names. -/
structure SeqOk (bs : List UInt8) (A : Nat) (W p : Int) (s : Sq) : Prop where
  p0 : 0 ≤ p
  lit : 0 ≤ s.lit
  len : 3 ≤ s.len
  fin : p + s.lit + s.len ≤ (bs.length : Int) - A
  off : 1 ≤ s.off
  win : s.off ≤ W
  far : s.off ≤ A + (p + s.lit)
  same : ∀ k : Nat, (k : Int) < s.len → bs[((A : Int) + (p + s.lit)).toNat + k]? = bs[((A : Int) + (p + s.lit) - s.off).toNat + k]?
/-- The plan l is one from p on. -/
def VerOk (bs : List UInt8) (A : Nat) (W : Int) : Int → List Sq → Prop
  | _, [] => True
  | p, s :: r => SeqOk bs A W p s ∧ VerOk bs A W (p + s.lit + s.len) r
theorem VerOk.drop {bs : List UInt8} {A : Nat} {W : Int} : ∀ (l : List Sq) (p : Int) (k : Nat) (s : Sq), VerOk bs A W p l → l[k]? = some s → SeqOk bs A W (endOf p (l.take k)) s := by
  intro l
  induction l with
  | nil => intro p k s _ h; simp at h
  | cons x r ih =>
    intro p k s h hk
    cases k with
    | zero => simp only [List.getElem?_cons_zero, Option.some.injEq] at hk; subst hk; exact h.1
    | succ k =>
      simp only [List.getElem?_cons_succ] at hk
      exact ih _ k s h.2 hk
end Go.Port
