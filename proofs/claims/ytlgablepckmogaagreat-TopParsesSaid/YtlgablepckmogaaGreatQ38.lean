/-
  Plain laws of layers 30, 31, 33: plans made of matches found are plans of their data. No program in sight.
  Plain laws of layer 31: a lazy plan is a plan of its data; what it costs; the cheapest of several. No program in sight. The walks of the reference of layer 31: longer, the lazy plan. The walks of layer 31: the costs with every lookahead, the cheapest plan; the reference's.
  The walks of layer 31: the costs with every lookahead, the cheapest plan.
-/
import Derived.Test.YtlgablepckmogaaGreatQ02
import Derived.Test.YtlgablepckmogaaGreatQ37
import Derived.Test.YtlgablepckmogaaGreatQ10
import Derived.Test.YtlgablepckmogaaGreatQ07
import Derived.Test.YtlgablepckmogaaGreatQ03
import Derived.Test.YtlgablepckmogaaGreatQ05
import Derived.Test.YtlgablepckmogaaGreatQ09
import Derived.Deep.RegionHeld3
import Derived.Laws.EntriesVeiled
namespace Go.Port
open Go.RowKit
/-- A sequence is a plan's at its place: within the data, the window, what lies behind; its bytes are those it names. -/
structure SeqOk (bs : List UInt8) (A : Nat) (W p : Int) (s : Sq) : Prop where
  p0 : 0 ≤ p
  lit : 0 ≤ s.lit
  len : 3 ≤ s.len
  fin : p + s.lit + s.len ≤ (bs.length : Int) - A
  off : 1 ≤ s.off
  win : s.off ≤ W
  far : s.off ≤ A + (p + s.lit)
  same : ∀ k : Nat, (k : Int) < s.len → bs[((A : Int) + (p + s.lit)).toNat + k]? = bs[((A : Int) + (p + s.lit) - s.off).toNat + k]?
/-- The plan l is one from p on. -/
def VerOk (bs : List UInt8) (A : Nat) (W : Int) : Int → List Sq → Prop
  | _, [] => True
  | p, s :: r => SeqOk bs A W p s ∧ VerOk bs A W (p + s.lit + s.len) r
theorem VerOk.drop {bs : List UInt8} {A : Nat} {W : Int} : ∀ (l : List Sq) (p : Int) (k : Nat) (s : Sq), VerOk bs A W p l → l[k]? = some s → SeqOk bs A W (endOf p (l.take k)) s := by
  intro l
  induction l with
  | nil => intro p k s _ h; simp at h
  | cons x r ih =>
    intro p k s h hk
    cases k with
    | zero => simp only [List.getElem?_cons_zero, Option.some.injEq] at hk; subst hk; exact h.1
    | succ k =>
      simp only [List.getElem?_cons_succ] at hk
      exact ih _ k s h.2 hk
theorem planS_ver {bs : List UInt8} {A : Nat} {W D size : Int} {act : Int → Mv} (hs : size = (bs.length : Int) - A) (hm : MvOk act) (ha : ∀ p s, act p = .take s → findS bs A W D p = some s) : ∀ (k : Nat) (p frm : Int), size - p ≤ k → 0 ≤ frm → frm ≤ p →
    VerOk bs A W frm (seqsL (planS act size p frm)) := by
  intro k
  induction k with
  | zero => intro p frm h _ _; rw [planS_end act frm (by omega)]; exact trivial
  | succ k ih =>
    intro p frm h h0 hf
    by_cases hp : p < size
    · cases e : act p with
      | go n =>
        have := (hm p).1 n e
        rw [planS_go hm frm hp e]
        exact ih n frm (by omega) h0 (by omega)
      | take s =>
        rw [planS_take hm frm hp e]
        obtain ⟨P, N, d, rfl, rfl, h1, h2, h3, h4, h5, h6⟩ := findS_is (ha p s e)
        refine ⟨⟨h0, ?_, ?_, ?_, ?_, ?_, ?_, ?_⟩, ?_⟩
        · simp only; omega
        · simp only; omega
        · simp only; omega
        · simp only; omega
        · simp only; omega
        · simp only; omega
        · intro j hj
          simp only at hj ⊢
          have := h6 j (by omega)
          rw [show A + P + j - d = A + P - d + j by omega] at this
          rw [show ((A : Int) + (frm + ((P : Int) - frm))).toNat = A + P by omega, show ((A : Int) + (frm + ((P : Int) - frm)) - (d : Int)).toNat = A + P - d by omega]
          exact this
        · have he : frm + ((P : Int) - frm) + (N : Int) = (P : Int) + N := by omega
          simp only
          rw [he]
          exact ih ((P : Int) + N) ((P : Int) + N) (by omega) (by omega) (Int.le_refl _)
    · rw [planS_end act frm (by omega)]
      exact trivial
end Go.Port
namespace Go.Port
open Go.RowKit
theorem lazy_ver (bs : List UInt8) (A : Nat) (W D : Int) (far : Nat) : VerOk bs A W 0 (seqs (lazyP bs A W D far)) :=
  planS_ver rfl (lazy_ok (B := bs) (A := A) (W := W) (D := D) (far := far)) (fun p s h => (lazyA_takes h).1) ((bs.length : Int) - A).toNat 0 0 (by omega) (Int.le_refl _) (Int.le_refl _)
theorem ver_in {bs : List UInt8} {A : Nat} {W : Int} {l : List Sq} (h : VerOk bs A W 0 l) (hb : bs.length ≤ 1000000) (hW : W ≤ 134217728) : ∀ s ∈ l, InSq s := by
  intro s hs
  obtain ⟨k, hk⟩ := List.mem_iff_getElem?.1 hs
  have h1 := h.drop l 0 k s hk
  have a1 := h1.p0
  have a2 := h1.lit
  have a3 := h1.len
  have a4 := h1.fin
  have a5 := h1.off
  have a6 := h1.win
  unfold InSq InI
  omega
theorem lazyP_in (bs : List UInt8) (A : Nat) (W D : Int) (far : Nat) (hb : bs.length ≤ 1000000) (hW : W ≤ 134217728) : ∀ s ∈ seqs (lazyP bs A W D far), InSq s := ver_in (lazy_ver bs A W D far) hb hW
/-- What a lazy plan costs. -/
def lazyC (bs : List UInt8) (A : Nat) (W D : Int) (far : Nat) : Int := (costM ((bs.length : Int) - A) (seqs (lazyP bs A W D far))).getD 0
theorem lazyC_some {bs : List UInt8} {A : Nat} {W D : Int} {far : Nat} (hA : A ≤ bs.length) (hW : W ≤ 134217728) : costM ((bs.length : Int) - A) (seqs (lazyP bs A W D far)) = some (lazyC bs A W D far) := by
  obtain ⟨r, h1, _⟩ := planS_cost (lazy_ok (B := bs) (A := A) (W := W) (D := D) (far := far)) (lazy_in (B := bs) (A := A) (W := W) (D := D) (far := far)) hW ((bs.length : Int) - A - 0).toNat 0 0 (8 * ((bs.length : Int) - A)) (by omega) (Int.le_refl _) (by omega) lazy_goes
  have h2 : costM ((bs.length : Int) - A) (seqs (lazyP bs A W D far)) = some r := by
    unfold costM
    rw [if_neg (by omega)]
    rw [Int.sub_zero] at h1
    exact h1
  unfold lazyC
  rw [h2]
  rfl
/-- The costs with every lookahead up to one. -/
def lazyCs (bs : List UInt8) (A : Nat) (W D : Int) (n : Nat) : List Int := (List.range n).map (lazyC bs A W D)
theorem lazyCs_succ (bs : List UInt8) (A : Nat) (W D : Int) (n : Nat) : lazyCs bs A W D (n + 1) = lazyCs bs A W D n ++ [lazyC bs A W D n] := by
  unfold lazyCs
  rw [List.range_succ, List.map_append]
  rfl
theorem lazyCs_get {bs : List UInt8} {A : Nat} {W D : Int} {n k : Nat} (h : k < n) : (lazyCs bs A W D n)[k]? = some (lazyC bs A W D k) := by
  unfold lazyCs
  rw [List.getElem?_map, List.getElem?_range h]
  rfl
/-- The first of the first k that none of them is less than. -/
def leastGo (f : Nat → Int) : Nat → Nat
  | 0 => 0
  | k + 1 => if f k < f (leastGo f k) then k else leastGo f k
theorem leastGo_lt (f : Nat → Int) (k : Nat) : leastGo f (k + 1) < k + 1 := by
  induction k with
  | zero => unfold leastGo; split <;> simp [leastGo]
  | succ k ih =>
    unfold leastGo
    split
    · omega
    · omega
/-- The lookahead whose plan is cheapest. -/
def lazyB (bs : List UInt8) (A : Nat) (W D : Int) (far : Nat) : Nat := leastGo (lazyC bs A W D) (far + 1)
end Go.Port
namespace Go.Proofs.YtlgablepckmogaaGreat
open Go.RowKit Go.Port
end Go.Proofs.YtlgablepckmogaaGreat
namespace Go.Port
open Go.RowKit
/-- The cheapest lookahead and its cost, as they are handed back. -/
def lazyBo (bs : List UInt8) (A : Nat) (W D far : Int) : Int := if lazyE far = 0 then (lazyB bs A W D far.toNat : Int) else 0
def lazyBp (bs : List UInt8) (A : Nat) (W D far : Int) : Int := if lazyE far = 0 then lazyC bs A W D (lazyB bs A W D far.toNat) else 0
end Go.Port
namespace Go.Proofs.YtlgablepckmogaaGreat
open Go.RowKit Go.Port
end Go.Proofs.YtlgablepckmogaaGreat
namespace Go.Proofs.YtlgablepckmogaaGreat
open Go.RowKit Go.Port
theorem lzc1_any (bs : List UInt8) (A : Nat) (W D : Int) (F : Nat) (k : Int) (p : Addr) (w : World) (h : FdAt 50 79 bs A W D F w) (hp : w.cell? p = some (.pointer (some ⟨F, 0, none⟩))) :
    Calls Tryz.prog 76 #[.int .i64 k, .pointer (some p)] w fun e w' => ∃ v, e = .returned (.tuple #[v, .int .i64 0]) ∧ w'.ownsRow w.heap.size 43 3 v (seqs (lazyP bs A W D 0)).length ((seqs (lazyP bs A W D 0)).flatMap sqc) ∧ Below w.heap.size w w' := by
  have HG := hid (gparse_any bs A W D F w h)
  rw [lazyP_zero h.hA]
  clear h
  go_enter Tryz.func76, Tryz.ntmps76
  go_wp2_with fail
  refine HG.out.mono ?_
  rintro e w1 ⟨v, rfl, hown, hb1⟩
  have HO := hid hown
  have HB := hid hb1
  clear hown hb1 HG
  go_wp2
  go_ret2
  exact ⟨_, rfl, HO.out, HB.out⟩
theorem lzc2_any (bs : List UInt8) (A : Nat) (W D : Int) (F : Nat) (k : Nat) (p : Addr) (w : World) (h : FdAt 50 79 bs A W D F w) (hp : w.cell? p = some (.pointer (some ⟨F, 0, none⟩))) (hk : k ≤ 8) :
    Calls Tryz.prog 77 #[.int .i64 (k : Int), .pointer (some p)] w fun e w' => ∃ v, e = .returned (.tuple #[v, .int .i64 0]) ∧ w'.ownsRow w.heap.size 43 3 v (seqs (lazyP bs A W D k)).length ((seqs (lazyP bs A W D k)).flatMap sqc) ∧ Below w.heap.size w w' := by
  have HG := hid (look_any bs A W D F (k : Int) w h)
  rw [lazyL_nat hk, lazyE_nat hk] at HG
  clear h hk
  go_enter Tryz.func77, Tryz.ntmps77
  go_wp2_with fail
  refine HG.out.mono ?_
  rintro e w1 ⟨v, rfl, hown, hb1⟩
  have HO := hid hown
  have HB := hid hb1
  clear hown hb1 HG
  go_wp2
  go_ret2
  exact ⟨_, rfl, HO.out, HB.out⟩
set_option maxRecDepth 100000 in
set_option maxHeartbeats 4000000 in
theorem lzcosts_ok (bs : List UInt8) (A : Nat) (W D : Int) (F kf : Nat) (w : World) (h : FdAt 50 79 bs A W D F w) (hb : bs.length ≤ 90000) (hkf : kf ≤ 8) :
    Calls Tryz.prog 53 #[.pointer (some ⟨F, 0, none⟩), .int .i64 (kf : Int)] w fun e w' => ∃ v, e = .returned (.tuple #[v, .int .i64 0]) ∧ w'.ownsRow w.heap.size 3 1 v (kf + 1) ((lazyCs bs A W D (kf + 1)).map iv) ∧ Below w.heap.size w w' := by
  have hmf : ∀ (fn : Fn) (first cap : Array Value) (w : World), (Instr.makeFunc fn first cap).run Tryz.prog w = .ok (.func fn first cap) w := fun _ _ _ _ => rfl
  have HX := hid (Blk.new w [.pointer (some ⟨F, 0, none⟩)] 24)
  have HB := hid (below_new w (.cells #[.pointer (some ⟨F, 0, none⟩)] 24))
  have HSt := hid (fun W' hW' => lzsteps_ok bs A W D F kf W' (h.low hW') hkf)
  have HC1 := hid (fun W' (hW' : Below w.heap.size w W') (k : Int) p hp => lzc1_any bs A W D F k p W' (h.low hW') hp)
  have HC2 := hid (fun W' (hW' : Below w.heap.size w W') (k : Nat) p hp (hk : k ≤ 8) => lzc2_any bs A W D F k p W' (h.low hW') hp hk)
  have HLe := hid (fun W' (hW' : Below w.heap.size w W') => clen_any bs A W D F W' (h.low hW'))
  have hA := h.hA
  have HPr := hid (fun (k : Nat) (a2 : Option Addr) (c2 : Nat) W' hc => cost_any a2 c2 ((bs.length : Int) - (A : Int)) (seqs (lazyP bs A W D k)) W' (by omega) (by omega) (by have := lazyP_length bs A W D k; unfold seqs; rw [List.length_map]; omega) (lazyP_in bs A W D k (by omega) h.hW.2) hc)
  have HCm := hid (fun k => lazyC_some (D := D) (far := k) hA h.hW.2)
  have hkI : (kf : Int) ≤ 8 := by omega
  clear h hb hA
  go_enter Tryz.func53, Tryz.ntmps53
  go_wp2_with fail
  refine (HSt.out _ HB.out).mono ?_
  rintro e w1 ⟨v, rfl, hown, hb1⟩
  obtain ⟨av, cv, rfl⟩ := own_slice hown
  have HX1 := hid (HX.out.below hb1 HX.out.lt)
  have HB1 := hid (HB.out.trans (hb1.mono HB.out.size))
  clear hown hb1 HX HB HSt
  go_wp2_with fail
  have hbn := below_new w1 (.cells #[.func (.func 76) #[] #[.pointer (some ⟨w.heap.size, 0, none⟩)], .func (.func 77) #[] #[.pointer (some ⟨w.heap.size, 0, none⟩)]] 147)
  have HX2 := hid (HX1.out.below hbn HX1.out.lt)
  have HB2 := hid (HB1.out.trans (hbn.mono HB1.out.size))
  have HA2 := hid (Blk.new w1 [.func (.func 76) #[] #[.pointer (some ⟨w.heap.size, 0, none⟩)], .func (.func 77) #[] #[.pointer (some ⟨w.heap.size, 0, none⟩)]] 147)
  clear hbn HX1 HB1
  generalize w1.alloc (.cells #[.func (.func 76) #[] #[.pointer (some ⟨w.heap.size, 0, none⟩)], .func (.func 77) #[] #[.pointer (some ⟨w.heap.size, 0, none⟩)]] 147) = w2 at *
  generalize w1.heap.size = G at *
  go_loopw [4, 26] (fun v t wr => ∃ k : Nat, k ≤ kf + 1 ∧ t = .int .i64 (k : Int) ∧ wr.ownsRow w2.heap.size 3 1 v k ((lazyCs bs A W D k).map iv) ∧ Below w2.heap.size w2 wr) (fun _ t _ => kf + 1 - (intOf t).toNat)
  case atStart => exact ⟨0, Nat.zero_le _, rfl, World.ownsRow_nil _ _ _ _, Below.refl _ _⟩
  case round =>
    obtain ⟨k, hk, rfl, hown, hBr⟩ := hrel
    have HO := hid hown
    have HBr := hid hBr
    by_cases hlt : k ≤ kf
    · have HK := hid hlt
      have hkk : (k : Int) < (kf : Int) + 1 := by omega
      have HPk := hid (HPr.out k)
      have HCk := hid (HCm.out k)
      have HS := hid (lazyCs_succ bs A W D k)
      rw [HCk.out] at HPk
      have HXr := hid (HX2.out.below hBr HX2.out.lt)
      have hAr := HA2.out.below hBr HA2.out.lt
      have HCall := hid (show ∀ k', k' = k → (k' = 0 → Calls Tryz.prog 76 #[.int .i64 (k : Int), .pointer (some ⟨w.heap.size, 0, none⟩)] wr fun e w' => ∃ v, e = .returned (.tuple #[v, .int .i64 0]) ∧ w'.ownsRow wr.heap.size 43 3 v (seqs (lazyP bs A W D k)).length ((seqs (lazyP bs A W D k)).flatMap sqc) ∧ Below wr.heap.size wr w') ∧
        (k' ≠ 0 → Calls Tryz.prog 77 #[.int .i64 (k : Int), .pointer (some ⟨w.heap.size, 0, none⟩)] wr fun e w' => ∃ v, e = .returned (.tuple #[v, .int .i64 0]) ∧ w'.ownsRow wr.heap.size 43 3 v (seqs (lazyP bs A W D k)).length ((seqs (lazyP bs A W D k)).flatMap sqc) ∧ Below wr.heap.size wr w') from fun k' hkk' => by
          have hb := HB2.out.trans (HBr.out.mono HB2.out.size)
          refine ⟨fun h0 => ?_, fun _ => HC2.out wr hb k _ (HXr.out.cell (k := 0) rfl) (by omega)⟩
          have hk0 : k = 0 := by omega
          subst hk0
          exact HC1.out wr hb _ _ (HXr.out.cell (k := 0) rfl))
      have HLc := hid (fun W' hW' => HLe.out W' hW')
      generalize seqs (lazyP bs A W D k) = l at *
      generalize lazyC bs A W D k = r at *
      unfold costR at HPk
      dsimp only [Option.getD, Option.isSome] at HPk
      have k0 := hAr.cell (k := 0) rfl
      have k1 := hAr.cell (k := 1) rfl
      go_upto_region 8 with fail
      go_cut [8] (fun t wx => ∃ a1 c1, t = .slice a1 l.length c1 ∧ CellsAt wx a1 (l.flatMap sqc) ∧ Below wr.heap.size wr wx)
      case first =>
        obtain ⟨c0, cn⟩ := HCall.out k rfl
        by_cases h0 : k = 0
        · have hmin : min (k : Int) 1 = 0 := by omega
          have HCc := hid (c0 h0)
          clear c0 cn hown hBr hk hlt HCall h0
          go_wp2_with fail
          refine HCc.out.mono ?_
          rintro e w3 ⟨v, rfl, hown, hb3⟩
          obtain ⟨a1, c1, rfl⟩ := own_slice hown
          have HCl := hid ((Sl.of_owns hown).cells' rfl)
          have HB3 := hid hb3
          clear hown hb3 k0 k1
          go_wp2
          go_meet
          exact ⟨_, _, rfl, HCl.out, HB3.out⟩
        · have hmin : min (k : Int) 1 = 1 := by omega
          have HCc := hid (cn h0)
          clear c0 cn hown hBr hk hlt HCall h0
          go_wp2_with fail
          refine HCc.out.mono ?_
          rintro e w3 ⟨v, rfl, hown, hb3⟩
          obtain ⟨a1, c1, rfl⟩ := own_slice hown
          have HCl := hid ((Sl.of_owns hown).cells' rfl)
          have HB3 := hid hb3
          clear hown hb3 k0 k1
          go_wp2
          go_meet
          exact ⟨_, _, rfl, HCl.out, HB3.out⟩
      case rest =>
        obtain ⟨a1, c1, rfl, hcl, hb3⟩ := hcut
        have HCl := hid hcl
        have HX3 := hid (HXr.out.below hb3 HXr.out.lt)
        have HO3 := hid (own_low HO.out hb3)
        have HB3 := hid (HBr.out.trans (hb3.mono HBr.out.size))
        have x0 := HX3.out.cell (k := 0) rfl
        clear hcl hb3 k0 k1 hown hBr hk hlt HCall
        go_wp2_with fail
        refine (HLc.out _ (HB2.out.trans (HB3.out.mono HB2.out.size))).mono ?_
        rintro e w' ⟨rfl, m, rfl⟩
        have HCl4 := hid (HCl.out.low (below_drewN (Below.refl wc.heap.size wc) m))
        have HO4 := hid (own_low HO3.out (below_drewN (Below.refl wc.heap.size wc) m))
        have HB4 := hid (below_drewN HB3.out m)
        clear x0
        generalize wc.drewN m = w4 at *
        go_wp2_with fail
        refine (HPk.out _ _ _ HCl4.out).mono ?_
        rintro e w5 ⟨rfl, hb5⟩
        have HO5 := hid (own_low HO4.out hb5)
        have HB5 := hid (HB4.out.trans (hb5.mono HB4.out.size))
        have hss : w2.heap.size ≤ w5.heap.size := HB5.out.size
        clear hb5
        obtain ⟨av2, cv2, rfl⟩ := own_slice HO5.out
        go_wp2_with (at_builtin; refine Hid.out ?_)
        refine hid ?_
        refine wpList_append1 rfl _ _ 77 rfl 3 _ 1 8 Tryz.underlying77 Tryz.info_int rfl (by decide) (by decide) _ w2.heap.size _ _ _ [.int .i64 r] rfl ?hu rfl rfl (by exact HO5.out) ?hn hss ?hk
        case hu => simp [Value.oneCell']
        case hn => have := HK.out; omega
        case hk =>
          intro v' w6 hown' hg
          have hbg := below_grown HO5.out hg hss
          have HB6 := hid (HB5.out.trans hbg)
          have HO6 := hid (show w6.ownsRow w2.heap.size 3 1 v' (k + 1) ((lazyCs bs A W D (k + 1)).map iv) from by
            rw [HS.out, List.map_append]
            exact hown')
          clear hown' hg hbg
          go_wp2
          go_roundw
          case rel => exact ⟨k + 1, by have := HK.out; omega, by go_num, HO6.out, HB6.out⟩
          case measure => have := HK.out; simp [intOf]; omega
    · obtain rfl : k = kf + 1 := by omega
      have hkk : ¬ ((kf + 1 : Nat) : Int) < (kf : Int) + 1 := by omega
      have HOf := hid (own_le HO.out HB2.out.size)
      have HBf := hid (HB2.out.trans (HBr.out.mono HB2.out.size))
      clear hown hBr
      go_wp2
      go_ret2
      exact ⟨_, rfl, HOf.out, HBf.out⟩
end Go.Proofs.YtlgablepckmogaaGreat
