/-
  Chapter 33's laws: what is known of a finder and a cost model, with the reference ones beside them.
  Chapter 33's laws: what a scene is in memory, and what is made of it.
-/
import Derived.Test.YtiagbejfghincaaGreatY37
import Derived.Test.YtiagbejfghincaaGreatY41
import Derived.Test.YtiagbejfghincaaGreatY42
import Derived.Test.YtiagbejfghincaaGreatY43
import Derived.Test.YtiagbejfghincaaGreatY44
import Derived.Test.YtiagbejfghincaaGreatY45
import Derived.Test.YtiagbejfghincaaGreatY22
import Derived.Test.YtiagbejfghincaaGreatY39
import Derived.Laws.IdiomArrays
namespace Go.Proofs.YtiagbejfghincaaGreat
open Go.RowKit Go.Port
def costF (C : Nat → List Int) (bs : List UInt8) (A : Nat) (Wd D : Int) (p : Nat) : Int := costAt (tabF C bs A Wd D) p
def planF (C : Nat → List Int) (bs : List UInt8) (A : Nat) (Wd D : Int) (p : Nat) : List Sq := planT ((tabF C bs A Wd D).drop p) 0 0
theorem isPath_mem {ch : Int → List Sq} {n : Nat} (hch : Choices n ch) : ∀ (l : List Sq) (p : Int), isPath ch n p l = true → ∀ s ∈ l, 3 ≤ s.len ∧ s.len ≤ n ∧ 1 ≤ s.off ∧ s.off ≤ 134217728 := by
  intro l
  induction l with
  | nil => intro p _ s hs; cases hs
  | cons x r ih =>
    intro p h s hs
    unfold isPath at h
    split at h
    · cases h
    · split at h
      · rename_i ha
        rcases List.mem_cons.1 hs with rfl | hs
        · obtain ⟨y, hy, hyy⟩ := List.any_eq_true.1 ha
          simp only [Bool.and_eq_true, beq_iff_eq] at hyy
          obtain ⟨c0, c1, c2, c3, c4, c5⟩ := hch.inn _ y hy
          omega
        · exact ih _ h s hs
      · cases h
theorem costs_at (t : List (Sq × Int)) {j : Nat} (hj : j ≤ t.length) : ((costsL t).map iv)[j]? = some (.int .i64 (costAt t j)) := by
  unfold costAt
  rw [List.getElem?_map, List.getD_eq_getElem?_getD, List.getElem?_eq_getElem (by rw [costsL_length]; omega)]
  rfl
/-- The plan from an index on: a path's, of the least cost. -/
theorem planF_is {C : Nat → List Int} (hC : ∀ k, k < 4 → HistOk k (C k)) {bs : List UInt8} {A : Nat} {Wd D : Int} (hA : A ≤ bs.length) (hW : Wd ≤ 134217728) (hn : (bs.drop A).length ≤ 131072) {p : Nat} (hp : p ≤ (bs.drop A).length) :
    (planF C bs A Wd D p).length ≤ (bs.drop A).length ∧ plitsO ((bs.drop A).drop p) (planF C bs A Wd D p) = true ∧ planO C ((bs.drop A).drop p) (planF C bs A Wd D p) = some (costF C bs A Wd D p) ∧ isPath (chF bs A Wd D) ((bs.drop A).length : Nat) (p : Int) (planF C bs A Wd D p) = true := by
  have hch : Choices (bs.drop A).length (chF bs A Wd D) := choices_ok hA hW
  have hl := planT_len ((tabF C bs A Wd D).drop p) 0 0
  rw [List.length_drop, tabF_length] at hl
  have hd : (tabF C bs A Wd D).drop p = tab C (bs.drop A) (chF bs A Wd D) (bs.drop A).length ((bs.drop A).length - p) := by
    have := tab_drop C (bs.drop A) (chF bs A Wd D) (bs.drop A).length ((bs.drop A).length - p) p
    rwa [Nat.sub_add_cancel hp] at this
  have hc : costF C bs A Wd D p = costAt (tab C (bs.drop A) (chF bs A Wd D) (bs.drop A).length ((bs.drop A).length - p)) 0 := costAt_tab C (bs.drop A) (chF bs A Wd D) (bs.drop A).length (bs.drop A).length p hp
  have h := planT_cost C (bs.drop A) (chF bs A Wd D) hC hch hn ((bs.drop A).length - p) 0 (by omega)
  dsimp only at h
  rw [show (bs.drop A).length - ((bs.drop A).length - p) - 0 = p from by omega, ← hd, List.take_zero, litsC_nil, Int.zero_add, hd, ← hc, ← hd] at h
  exact ⟨by unfold planF; omega, h.1, h.2.1, h.2.2⟩
/-- A finder, a cost model, and the reference ones. -/
structure BestAt (W : World) (bs : List UInt8) (A : Nat) (Wd D : Int) (F M : Nat) (ar : Option Addr) (cr : Nat) (Ar : Nat → Option Addr) (cp : Nat → Nat) (C : Nat → List Int) : Prop where
  fd : FdAt 76 159 bs A Wd D F W
  pr : PrAt W M C
  cs : CellsAt W ar (bs.map bv)
  rf : RfAt W Ar cp C
  hcr : bs.length ≤ cr
  hbl : bs.length ≤ 200
theorem BestAt.low {W : World} {bs : List UInt8} {A : Nat} {Wd D : Int} {F M : Nat} {ar : Option Addr} {cr : Nat} {Ar : Nat → Option Addr} {cp : Nat → Nat} {C : Nat → List Int} (h : BestAt W bs A Wd D F M ar cr Ar cp C) {W' : World} (hb : Below W.heap.size W W') : BestAt W' bs A Wd D F M ar cr Ar cp C := ⟨h.fd.low hb, h.pr.low hb, h.cs.low hb, h.rf.low hb, h.hcr, h.hbl⟩
theorem BestAt.hn {W : World} {bs : List UInt8} {A : Nat} {Wd D : Int} {F M : Nat} {ar : Option Addr} {cr : Nat} {Ar : Nat → Option Addr} {cp : Nat → Nat} {C : Nat → List Int} (h : BestAt W bs A Wd D F M ar cr Ar cp C) : (bs.drop A).length ≤ 200 := by
  have := h.hbl
  rw [List.length_drop]
  omega
theorem BestAt.ch {W : World} {bs : List UInt8} {A : Nat} {Wd D : Int} {F M : Nat} {ar : Option Addr} {cr : Nat} {Ar : Nat → Option Addr} {cp : Nat → Nat} {C : Nat → List Int} (h : BestAt W bs A Wd D F M ar cr Ar cp C) : Choices (bs.drop A).length (chF bs A Wd D) := choices_ok h.fd.hA h.fd.hW.2
theorem BestAt.is {W : World} {bs : List UInt8} {A : Nat} {Wd D : Int} {F M : Nat} {ar : Option Addr} {cr : Nat} {Ar : Nat → Option Addr} {cp : Nat → Nat} {C : Nat → List Int} (h : BestAt W bs A Wd D F M ar cr Ar cp C) {p : Nat} (hp : p ≤ (bs.drop A).length) : (planF C bs A Wd D p).length ≤ (bs.drop A).length ∧ plitsO ((bs.drop A).drop p) (planF C bs A Wd D p) = true ∧ planO C ((bs.drop A).drop p) (planF C bs A Wd D p) = some (costF C bs A Wd D p) ∧ isPath (chF bs A Wd D) ((bs.drop A).length : Nat) (p : Int) (planF C bs A Wd D p) = true := planF_is (C := C) (Wd := Wd) (D := D) h.pr.ok h.fd.hA h.fd.hW.2 (Nat.le_trans h.hn (by decide)) hp
theorem BestAt.min {W : World} {bs : List UInt8} {A : Nat} {Wd D : Int} {F M : Nat} {ar : Option Addr} {cr : Nat} {Ar : Nat → Option Addr} {cp : Nat → Nat} {C : Nat → List Int} (h : BestAt W bs A Wd D F M ar cr Ar cp C) :
    Calls Tryz.prog 15 #[.pointer (some ⟨F, 0, none⟩), .pointer (some ⟨M, 0, none⟩)] W (RetV W (.tuple #[.int .i64 (costF C bs A Wd D 0), .int .i64 0])) := bmin_ok bs A Wd D F M C W h.fd h.pr h.ch
theorem own_open {w : World} {base : Nat} {e : TypeId} {v : Value} {l : List Sq} (h : w.ownsRow base e 3 v l.length (l.flatMap sqc)) : ∃ al cl, v = .slice al l.length cl ∧ l.length ≤ cl ∧ CellsAt w al (l.flatMap sqc) ∧ (al = none → cl = 0) := by
  obtain ⟨al, cl, rfl⟩ := own_slice h
  refine ⟨al, cl, rfl, ?_, (own_rows h).1, ?_⟩
  · rcases (own_clip h).2 with ⟨_, h1, h2⟩ | ⟨g, _, h2⟩ <;> omega
  · rcases (own_clip h).2 with ⟨_, _, h2⟩ | ⟨g, h1, _⟩
    · exact fun _ => h2
    · intro e; rw [h1] at e; cases e
theorem BestAt.model {W : World} {bs : List UInt8} {A : Nat} {Wd D : Int} {F M : Nat} {ar : Option Addr} {cr : Nat} {Ar : Nat → Option Addr} {cp : Nat → Nat} {C : Nat → List Int} (h : BestAt W bs A Wd D F M ar cr Ar cp C) :
    Calls Tryz.prog 18 #[.pointer (some ⟨F, 0, none⟩), .pointer (some ⟨M, 0, none⟩)] W fun e w' => ∃ al cl, e = .returned (.tuple #[.slice al (planF C bs A Wd D 0).length cl, .int .i64 0]) ∧ (planF C bs A Wd D 0).length ≤ cl ∧ CellsAt w' al ((planF C bs A Wd D 0).flatMap sqc) ∧ Below W.heap.size W w' := by
  refine (bpm_ok bs A Wd D F M C W h.fd h.pr h.ch).mono ?_
  rintro e w' ⟨v, rfl, h1, h2⟩
  obtain ⟨al, cl, rfl, h3, h4, _⟩ := own_open (l := planF C bs A Wd D 0) h1
  exact ⟨al, cl, rfl, h3, h4, h2⟩
theorem BestAt.from' {W : World} {bs : List UInt8} {A : Nat} {Wd D : Int} {F M : Nat} {ar : Option Addr} {cr : Nat} {Ar : Nat → Option Addr} {cp : Nat → Nat} {C : Nat → List Int} (h : BestAt W bs A Wd D F M ar cr Ar cp C) {p : Nat} (hp : p ≤ (bs.drop A).length) :
    Calls Tryz.prog 21 #[.pointer (some ⟨F, 0, none⟩), .pointer (some ⟨M, 0, none⟩), .int .i64 (p : Int)] W fun e w' => ∃ al cl, e = .returned (.tuple #[.int .i64 (costF C bs A Wd D p), .slice al (planF C bs A Wd D p).length cl, .int .i64 0]) ∧ (planF C bs A Wd D p).length ≤ cl ∧ CellsAt w' al ((planF C bs A Wd D p).flatMap sqc) ∧ Below W.heap.size W w' := by
  refine (bpf_ok bs A Wd D F M C W h.fd h.pr h.ch p hp).mono ?_
  rintro e w' ⟨v, rfl, h1, h2⟩
  obtain ⟨al, cl, rfl, h3, h4, _⟩ := own_open (l := planF C bs A Wd D p) h1
  exact ⟨al, cl, rfl, h3, h4, h2⟩
theorem BestAt.costs {W : World} {bs : List UInt8} {A : Nat} {Wd D : Int} {F M : Nat} {ar : Option Addr} {cr : Nat} {Ar : Nat → Option Addr} {cp : Nat → Nat} {C : Nat → List Int} (h : BestAt W bs A Wd D F M ar cr Ar cp C) :
    Calls Tryz.prog 16 #[.agg #[.slice ar bs.length cr, .int .i64 (A : Int), .int .i64 Wd, .int .i64 D], .agg #[.slice (Ar 0) (C 0).length (cp 0), .slice (Ar 1) (C 1).length (cp 1), .slice (Ar 2) (C 2).length (cp 2), .slice (Ar 3) (C 3).length (cp 3)]] W fun e w' => ∃ g, e = .returned (.slice (some ⟨g, 0, none⟩) ((bs.drop A).length + 1) ((bs.drop A).length + 1)) ∧ W.heap.size ≤ g ∧ Blk w' g ((costsL (tabF C bs A Wd D)).map iv) 3 ∧ Below W.heap.size W w' :=
  rcosts_any bs ar cr A Wd D Ar cp C W (Nat.le_trans h.hbl (by decide)) (Nat.le_trans h.hn (by decide)) h.hcr h.fd.hA h.fd.hW h.fd.hD h.cs h.rf
theorem BestAt.cost {W : World} {bs : List UInt8} {A : Nat} {Wd D : Int} {F M : Nat} {ar : Option Addr} {cr : Nat} {Ar : Nat → Option Addr} {cp : Nat → Nat} {C : Nat → List Int} (_h : BestAt W bs A Wd D F M ar cr Ar cp C) {w : World} {g : Nat} (hg : Blk w g ((costsL (tabF C bs A Wd D)).map iv) 3) {p : Nat} (hp : p ≤ (bs.drop A).length) : w.cell? ⟨g, p, none⟩ = some (.int .i64 (costF C bs A Wd D p)) := hg.cell (costs_at _ (by rw [tabF_length]; exact hp))
theorem BestAt.isr {W : World} {bs : List UInt8} {A : Nat} {Wd D : Int} {F M : Nat} {ar : Option Addr} {cr : Nat} {Ar : Nat → Option Addr} {cp : Nat → Nat} {C : Nat → List Int} (h : BestAt W bs A Wd D F M ar cr Ar cp C) {p : Nat} (hp : p ≤ (bs.drop A).length) {al : Option Addr} {cl : Nat} (hcl : CellsAt W al ((planF C bs A Wd D p).flatMap sqc)) :
    Calls Tryz.prog 20 #[.agg #[.slice ar bs.length cr, .int .i64 (A : Int), .int .i64 Wd, .int .i64 D], .int .i64 (p : Int), .slice al (planF C bs A Wd D p).length cl] W (RetV W (.bool true)) :=
  ris_true bs ar cr A Wd D p al cl _ W (Nat.le_trans h.hbl (by decide)) h.hcr h.fd.hA h.fd.hW h.fd.hD h.cs (Nat.le_trans (h.is hp).1 (Nat.le_trans h.hn (by decide))) hcl (h.is hp).2.2.2
theorem BestAt.pd {W : World} {bs : List UInt8} {A : Nat} {Wd D : Int} {F M : Nat} {ar : Option Addr} {cr : Nat} {Ar : Nat → Option Addr} {cp : Nat → Nat} {C : Nat → List Int} (h : BestAt W bs A Wd D F M ar cr Ar cp C) {p : Nat} (hp : p ≤ (bs.drop A).length) {w : World} {al : Option Addr} {cl : Nat} (hll : (planF C bs A Wd D p).length ≤ cl) (hcl : CellsAt w al ((planF C bs A Wd D p).flatMap sqc)) {ad : Option Addr} {c : Nat} (hc : c ≤ 9223372036854775807) (hlc : ((bs.drop A).drop p).length ≤ c) (had : ad = none → c = 0) (hd : Cs w ad (((bs.drop A).drop p).map bv)) :
    PdAt w al cl (planF C bs A Wd D p) ad c ((bs.drop A).drop p) := by
  have h1 := (h.is hp).1
  have h2 := h.hn
  have h3 : ((bs.drop A).drop p).length = (bs.drop A).length - p := List.length_drop
  exact ⟨by omega, hll, hcl, ⟨by omega, hc⟩, hlc, had, hd, by omega⟩
theorem BestAt.mem {W : World} {bs : List UInt8} {A : Nat} {Wd D : Int} {F M : Nat} {ar : Option Addr} {cr : Nat} {Ar : Nat → Option Addr} {cp : Nat → Nat} {C : Nat → List Int} (h : BestAt W bs A Wd D F M ar cr Ar cp C) {p : Nat} (hp : p ≤ (bs.drop A).length) : ∀ s ∈ planF C bs A Wd D p, 3 ≤ s.len ∧ s.len ≤ 200 ∧ 1 ≤ s.off ∧ s.off ≤ 134217728 := fun s hs => by
  have h1 := isPath_mem h.ch _ _ (h.is hp).2.2.2 s hs
  have := h.hn
  omega
theorem BestAt.plan {W : World} {bs : List UInt8} {A : Nat} {Wd D : Int} {F M : Nat} {ar : Option Addr} {cr : Nat} {Ar : Nat → Option Addr} {cp : Nat → Nat} {C : Nat → List Int} (h : BestAt W bs A Wd D F M ar cr Ar cp C) {p : Nat} (hp : p ≤ (bs.drop A).length) {al : Option Addr} {cl : Nat} {ad : Option Addr} {c : Nat} (hpd : PdAt W al cl (planF C bs A Wd D p) ad c ((bs.drop A).drop p)) :
    Calls Tryz.prog 19 #[.agg #[.slice (Ar 0) (C 0).length (cp 0), .slice (Ar 1) (C 1).length (cp 1), .slice (Ar 2) (C 2).length (cp 2), .slice (Ar 3) (C 3).length (cp 3)], .slice ad ((bs.drop A).drop p).length c, .slice al (planF C bs A Wd D p).length cl] W (RetV W (.tuple #[.int .i64 (costF C bs A Wd D p), .int .i64 0])) := by
  have hx := rplan_any Ar cp C W h.rf al cl (planF C bs A Wd D p) ad c ((bs.drop A).drop p) hpd (fun s hs => by have := h.mem hp s hs; omega)
  unfold planV at hx
  rw [if_pos (h.is hp).2.1, (h.is hp).2.2.1] at hx
  exact hx
end Go.Proofs.YtiagbejfghincaaGreat
namespace Go.Proofs.YtiagbejfghincaaGreat
open Go.RowKit Go.Port
/-- What a scene's slices read. -/
structure SceneAt (W : World) (a1 : Option Addr) (c1 : Nat) (H : List UInt8) (a2 : Option Addr) (c2 : Nat) (Dt : List UInt8) (Ar : Nat → Option Addr) (cp : Nat → Nat) (C : Nat → List Int) : Prop where
  h1 : H.length ≤ c1
  h2 : Dt.length ≤ c2
  h3 : a1 = none → c1 = 0
  h4 : a2 = none → c2 = 0
  hc1 : CellsAt W a1 (H.map bv)
  hc2 : CellsAt W a2 (Dt.map bv)
  hf : FourAt W Ar cp C
  hm : c2 ≤ maxLen
theorem SceneAt.low {W W' : World} {a1 : Option Addr} {c1 : Nat} {H : List UInt8} {a2 : Option Addr} {c2 : Nat} {Dt : List UInt8} {Ar : Nat → Option Addr} {cp : Nat → Nat} {C : Nat → List Int} (h : SceneAt W a1 c1 H a2 c2 Dt Ar cp C) (hb : Below W.heap.size W W') : SceneAt W' a1 c1 H a2 c2 Dt Ar cp C :=
  ⟨h.h1, h.h2, h.h3, h.h4, h.hc1.low hb, h.hc2.low hb, h.hf.low hb, h.hm⟩
theorem made33_any (a1 a2 : Option Addr) (c1 c2 : Nat) (H Dt : List UInt8) (Wd D : Int) (Ar : Nat → Option Addr) (cp : Nat → Nat) (C : Nat → List Int) (w : World) (hs : SceneAt w a1 c1 H a2 c2 Dt Ar cp C) :
    Calls Tryz.prog 11 #[sceneV a1 H.length c1 a2 Dt.length c2 Wd D Ar cp C] w fun e w' => (e = .returned (.tuple #[.agg #[.pointer none, .pointer none, .slice none 0 0, .int .i64 0, .int .i64 0, .int .i64 0, .slice none 0 0, .slice none 0 0, .slice none 0 0, .slice none 0 0], .bool false]) ∧ Below w.heap.size w w') ∨
      (SceneOk H.length Dt.length Wd D C ∧ ∃ F M ar cr, e = .returned (.tuple #[.agg #[.pointer (some ⟨F, 0, none⟩), .pointer (some ⟨M, 0, none⟩), .slice ar (H ++ Dt).length cr, .int .i64 (H.length : Int), .int .i64 Wd, .int .i64 D, .slice (Ar 0) (C 0).length (cp 0), .slice (Ar 1) (C 1).length (cp 1), .slice (Ar 2) (C 2).length (cp 2), .slice (Ar 3) (C 3).length (cp 3)], .bool true]) ∧
      FdAt 76 159 (H ++ Dt) H.length Wd D F w' ∧ PrAt w' M C ∧ CellsAt w' ar ((H ++ Dt).map bv) ∧ (H ++ Dt).length ≤ cr ∧ Below w.heap.size w w') := by
  by_cases hok : SceneOk H.length Dt.length Wd D C
  · exact (made33_ok a1 a2 c1 c2 H Dt Wd D Ar cp C w hs.h1 hs.h2 hs.h3 hs.h4 hs.hc1 hs.hc2 hs.hf hok).mono fun e w' h => .inr ⟨hok, h⟩
  · exact (made33_bad a1 a2 c1 c2 H Dt Wd D Ar cp C w hs.h1 hs.h2 hs.h3 hs.h4 hs.hc1 hs.hc2 hs.hf hok).mono fun e w' h => .inl h
theorem Rs.bytes {w : World} {v : Value} {l : List UInt8} (h : Rs w 1 v l.length (l.map bv)) : ∃ a c, v = .slice a l.length c ∧ l.length ≤ c ∧ (a = none → c = 0) ∧ CellsAt w a (l.map bv) ∧ c ≤ maxLen := by
  obtain ⟨_, a, c, h1, h2, h3, h4, h5⟩ := h
  exact ⟨a, c, h1, h2, h4, h5, h3⟩
set_option maxRecDepth 100000 in
set_option maxHeartbeats 4000000 in
theorem open_scene {H0 : Type} {enc : TypeId × Value → H0} {W : World} {v : Value} {d : DataW H0} {ps : List MemPlace} {b0 : Nat}
    (hv : Value.okWide Tryz.prog W .any b0 26 v) (hd : DataW.Trod enc Tryz.prog W 0 (fun _ => true) true 26 v d ps) :
    ∃ (a1 : Option Addr) (c1 : Nat) (H : List UInt8) (a2 : Option Addr) (c2 : Nat) (Dt : List UInt8) (Wd D : Int) (Ar : Nat → Option Addr) (cp : Nat → Nat) (C : Nat → List Int), v = sceneV a1 H.length c1 a2 Dt.length c2 Wd D Ar cp C ∧ SceneAt W a1 c1 H a2 c2 Dt Ar cp C := by
  have ht := Tryz.underlying26
  have hce : Tryz.prog.cellsOf 26 = 8 := by kernel_rfl
  have hc1 : Tryz.prog.cellsOf 22 = 1 := by kernel_rfl
  have hc2 : Tryz.prog.cellsOf 3 = 1 := by kernel_rfl
  have hc3 : Tryz.prog.cellsOf 23 = 1 := by kernel_rfl
  have hc4 : Tryz.prog.cellsOf 24 = 4 := by kernel_rfl
  have hcu : Tryz.prog.cellsOf 5 = 1 := by kernel_rfl
  simp only [Value.okWide, ht] at hv
  obtain ⟨cs, rfl, hsz, _⟩ := hv
  rw [hce] at hsz
  obtain ⟨m, hf⟩ := hd
  replace hf : DataW.trod enc Tryz.prog W 0 (fun _ => true) true m 26 cs.toList = some (d, ps) := hf
  obtain ⟨l⟩ := cs
  match l, hsz with
  | [u0, u1, u2, u3, u4, u5, u6, u7], _ =>
    obtain ⟨ys, n2, _, _, _, hyl, hyg⟩ := DataW.trod_struct ht hf
    have y0 := hyg 0 _ rfl
    have y1 := hyg 1 _ rfl
    have y2 := hyg 2 _ rfl
    have y3 := hyg 3 _ rfl
    have y4 := hyg 4 _ rfl
    obtain ⟨w0, hw0⟩ : ∃ x0, ys[0]? = some x0 := ⟨_, List.getElem?_eq_getElem (by rw [hyl]; decide)⟩
    obtain ⟨w1, hw1⟩ : ∃ x0, ys[1]? = some x0 := ⟨_, List.getElem?_eq_getElem (by rw [hyl]; decide)⟩
    obtain ⟨w2, hw2⟩ : ∃ x0, ys[2]? = some x0 := ⟨_, List.getElem?_eq_getElem (by rw [hyl]; decide)⟩
    obtain ⟨w3, hw3⟩ : ∃ x0, ys[3]? = some x0 := ⟨_, List.getElem?_eq_getElem (by rw [hyl]; decide)⟩
    obtain ⟨w4, hw4⟩ : ∃ x0, ys[4]? = some x0 := ⟨_, List.getElem?_eq_getElem (by rw [hyl]; decide)⟩
    rw [hw0] at y0
    rw [hw1] at y1
    rw [hw2] at y2
    rw [hw3] at y3
    rw [hw4] at y4
    have z0 : DataW.trod enc Tryz.prog W 0 (fun _ => true) true n2 22 [u0] = some w0 := by simpa [hc1, hc2, hc4] using y0
    have z1 : DataW.trod enc Tryz.prog W 0 (fun _ => true) true n2 22 [u1] = some w1 := by simpa [hc1, hc2, hc4] using y1
    have z2 : DataW.trod enc Tryz.prog W 0 (fun _ => true) true n2 3 [u2] = some w2 := by simpa [hc1, hc2, hc4] using y2
    have z3 : DataW.trod enc Tryz.prog W 0 (fun _ => true) true n2 3 [u3] = some w3 := by simpa [hc1, hc2, hc4] using y3
    have z4 : DataW.trod enc Tryz.prog W 0 (fun _ => true) true n2 24 [u4, u5, u6, u7] = some w4 := by simpa [hc1, hc2, hc4] using y4
    obtain ⟨q1, r1, b1⟩ := open_row Tryz.underlying22 Tryz.underlying5 hcu rfl z0
    obtain ⟨q2, r2, b2⟩ := open_row Tryz.underlying22 Tryz.underlying5 hcu rfl z1
    obtain ⟨x2, hx2, _, f2⟩ := DataW.trod_int Tryz.underlying3 z2
    obtain ⟨x3, hx3, _, f3⟩ := DataW.trod_int Tryz.underlying3 z3
    simp only [List.cons.injEq, and_true] at hx2 hx3
    subst hx2 hx3
    obtain ⟨H, hH, nH⟩ := bytes_of b1
    obtain ⟨Dt, hD, nD⟩ := bytes_of b2
    rw [hH, ← nH] at r1
    rw [hD, ← nD] at r2
    obtain ⟨a1, k1, rfl, e1, g1, i1, _⟩ := Rs.bytes r1
    obtain ⟨a2, k2, rfl, e2, g2, i2, m2⟩ := Rs.bytes r2
    obtain ⟨y0, y1, y2, y3, n, _, z0, z1, z2, z3⟩ := Go.ChangeShapes.trod_array4 Tryz.underlying24 hc3 z4
    obtain ⟨l0, r0, b0⟩ := open_row Tryz.underlying23 Tryz.underlying3 hc2 rfl z0
    obtain ⟨l1, r1, b1⟩ := open_row Tryz.underlying23 Tryz.underlying3 hc2 rfl z1
    obtain ⟨l2, r2, b2⟩ := open_row Tryz.underlying23 Tryz.underlying3 hc2 rfl z2
    obtain ⟨l3, r3, b3⟩ := open_row Tryz.underlying23 Tryz.underlying3 hc2 rfl z3
    obtain ⟨p0, c0, rfl, s0, t0, v0, j0⟩ := Rs.four r0
    obtain ⟨p1, c1, rfl, s1, t1, v1, j1⟩ := Rs.four r1
    obtain ⟨p2, c2, rfl, s2, t2, v2, j2⟩ := Rs.four r2
    obtain ⟨p3, c3, rfl, s3, t3, v3, j3⟩ := Rs.four r3
    exact ⟨a1, k1, H, a2, k2, Dt, x2, x3, four4 p0 p1 p2 p3, four4 c0 c1 c2 c3, four4 l0 l1 l2 l3, rfl, e1, e2, g1, g2, i1, i2, ⟨four4_all s0 s1 s2 s3, four4_all t0 t1 t2 t3, four4_all v0 v1 v2 v3, four4_all j0 j1 j2 j3⟩, m2⟩
end Go.Proofs.YtiagbejfghincaaGreat
