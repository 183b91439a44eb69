/-
  The walks of the split, twelfth part: the iterator over the parts.
-/
import Derived.Test.YtadnhjloeaddnaaSplitK
import Derived.RangeFuncBox
import Derived.RangeFuncLeaves
import Derived.OwnWalkIn
import Derived.TacticsInMore
import Derived.LoopNIn
import Derived.LoopIn
import Derived.WalkMore
namespace Go.Port
open Go.RowKit

/-- The cells that lay, but for block bn, lie. -/
def Tr (X : Nat → Prop) (W W' : World) : Prop := ∀ (a : Addr) (u : Value), ¬ X a.block → W.cell? a = some u → W'.cell? a = some u
theorem Tr.refl (X : Nat → Prop) (W : World) : Tr X W W := fun _ _ _ h => h
theorem Tr.trans {X : Nat → Prop} {A B C : World} (h : Tr X A B) (k : Tr X B C) : Tr X A C := fun a u ha hu => k a u ha (h a u ha hu)
theorem Tr.of_below {X : Nat → Prop} {A B : World} (h : Below A.heap.size A B) : Tr X A B := fun a _ _ hu => (h.cell (World.block_lt_of_cell? A a hu)).trans hu
theorem Tr.of_keeps {X : Nat → Prop} {A B : World} (h : KeepsBut X A B) : Tr X A B := fun a u ha hu => by
  have h1 := hu
  unfold World.cell? at hu
  cases hb : A.heap[a.block]? with
  | none => simp [hb] at hu
  | some o =>
    have ho : o.isCells = true := by
      cases o <;> simp_all [Obj.isCells]
    have := h a.block o hb ho ha
    rw [World.cell?_of_block (this.trans hb.symm)]
    exact h1

/-- A part: its start, the slice, its bytes. -/
def PEl : Type := Int × Value × List UInt8
def mkP (T : Int) (v : Value) (b : List UInt8) : PEl := (T, v, b)
def encsP (x : PEl) : Array Value := #[.int .i64 x.1, x.2.1]
def AdP (x : PEl) (W : World) : Prop := Sl W 1 x.2.1 x.2.2.length (x.2.2.map bv)
def dataP (xs : List PEl) : List (Int × List UInt8) := xs.map fun x => (x.1, x.2.2)
theorem dataP_snoc (xs : List PEl) (T : Int) (v : Value) (b : List UInt8) : dataP (xs ++ [mkP T v b]) = dataP xs ++ [(T, b)] := by
  unfold dataP
  rw [List.map_append]
  rfl
def fullP (bs : List UInt8) (cuts : List Int) : List (Int × List UInt8) := if riseB bs.length 0 cuts = true ∧ bs.length ≠ 0 then partsGo bs 0 (cuts ++ [(bs.length : Int)]) else []
end Go.Port
namespace Go.Proofs.Ytadnhjloeaddnaa
open Go.RowKit Go.Port

attribute [local go_sem] Oper.semAt_some

set_option maxRecDepth 100000 in
set_option maxHeartbeats 4000000 in
theorem parts1_seq (X : Nat → Prop) (p5 p6 : Addr) (ao : Option Addr) (co pb po n cp : Nat) (bs : List UInt8) (cuts : List Int) (w0 : World) (hNb : bs.length ≤ 200000) (hn : cuts.length = n) (hnb : n ≤ 9000) (hcp : n + 1 ≤ cp) (hNc : bs.length ≤ co) (hac : ao = none → co = 0)
    (h5 : ¬ X p5.block) (h6 : ¬ X p6.block) (hpb : ¬ X pb) (c5 : w0.cell? p5 = some (.slice ao bs.length co)) (c6 : w0.cell? p6 = some (.slice (some ⟨pb, po, none⟩) (n + 1) cp))
    (hz : ∀ j u, ((cuts ++ [(bs.length : Int)]).map iv)[j]? = some u → w0.cell? ⟨pb, po + j, none⟩ = some u)
    (ho : ∀ j u, (bs.map bv)[j]? = some u → ∃ b off, ao = some ⟨b, off, none⟩ ∧ ¬ X b ∧ w0.cell? ⟨b, off + j, none⟩ = some u) :
    SeqAd Try.prog 43 #[.pointer (some p5), .pointer (some p6)] encsP AdP (fun xs => dataP xs = fullP bs cuts) (fun xs => ∃ rest, dataP xs ++ rest = fullP bs cuts) (KeepsBut X) w0 := by
  intro l J Jx W hW hJ hJx hY hJ0
  have hT0 : Tr X w0 W := Tr.of_below hW
  have h5W := hT0 _ _ h5 c5
  have h6W := hT0 _ _ h6 c6
  have HZ := hid (fun (W' : World) (hT : Tr X w0 W') j u hu => hT ⟨pb, po + j, none⟩ u hpb (hz j u hu))
  have HO := hid (fun (W' : World) (hT : Tr X w0 W') j u hu => (show ∃ b off, ao = some ⟨b, off, none⟩ ∧ b < W'.heap.size ∧ W'.cell? ⟨b, off + j, none⟩ = some u from by
    obtain ⟨b, off, e, hb, hc⟩ := ho j u hu
    have := hT ⟨b, off + j, none⟩ u hb hc
    exact ⟨b, off, e, World.block_lt_of_cell? W' _ this, this⟩))
  have HY := hid hY
  have c5' := c5
  clear hz ho hY c5 c6
  have HRef := hid (refused_any (bs.length : Int) (riseB bs.length 0 cuts) (some ⟨pb, po, none⟩) n cp cuts (bs.length : Int) W (by omega) (by omega) hn (by omega) hcp rfl (fun j u hu => ⟨pb, po, rfl, World.block_lt_of_cell? W _ (HZ.out W hT0 j u hu), HZ.out W hT0 j u hu⟩))
  refine callsIn_of_wp Try.func43 rfl trivial ?_ rfl
  simp only [Try.ntmps43, List.size_toArray, List.length_cons, List.length_nil, Nat.reduceAdd, Nat.reduceSub, Array.replicate_succ, Array.replicate_zero, List.push_toArray, List.append_toArray, List.nil_append, List.cons_append]
  cases hr : riseB (bs.length : Int) 0 cuts with
  | false =>
    rw [hr] at HRef
    have HE := hid (show dataP [] = fullP bs cuts from by
      unfold fullP
      rw [if_neg (by rw [hr]; simp)]
      rfl)
    clear hr
    gi_wp2
    refine wpIn_wide.2 (wp_scope_straight ((wpIn_wide (n := 0)).1 ?_))
    gi_wp2_with (refine ⟨trivial, rfl, ?_⟩; refine (callsIn_wide.2 HRef.out).mono ?_; rintro e w' ⟨rfl, hb⟩)
    simp only [Exit.noGoto_ret]
    refine bodyPost_ret (results_none rfl _ _ _) rfl ?_
    exact ⟨⟨_, rfl⟩, .inl ⟨[], HE.out, hJ _ _ _ hJ0 hb⟩⟩
  | true =>
    rw [hr] at HRef
    by_cases hN : bs.length = 0
    · have HE := hid (show dataP [] = fullP bs cuts from by
        unfold fullP
        rw [if_neg (fun h => h.2 hN)]
        rfl)
      have t0 : (((bs.length : Nat) : Int) == 0) = true := by rw [hN]; rfl
      have HN := hid hN
      clear hN
      gi_wp2
      refine wpIn_wide.2 (wp_scope_straight ((wpIn_wide (n := 0)).1 ?_))
      gi_wp2_with (refine ⟨trivial, rfl, ?_⟩; refine (callsIn_wide.2 HRef.out).mono ?_; rintro e w' ⟨rfl, hb⟩; have h5b := (hb.cell (World.block_lt_of_cell? W p5 h5W)).trans h5W)
      simp only [Exit.noGoto_ret]
      refine bodyPost_ret (results_none rfl _ _ _) rfl ?_
      exact ⟨⟨_, rfl⟩, .inl ⟨[], HE.out, hJ _ _ _ hJ0 hb⟩⟩
    · have t0 : (((bs.length : Nat) : Int) == 0) = false := by simpa using hN
      gi_wp2
      refine wpIn_wide.2 (wp_scope_straight ((wpIn_wide (n := 0)).1 ?_))
      gi_wp2_with (refine ⟨trivial, rfl, ?_⟩; refine (callsIn_wide.2 HRef.out).mono ?_; rintro e w' ⟨rfl, hb⟩; have h5b := (hb.cell (World.block_lt_of_cell? W p5 h5W)).trans h5W; have h6b := (hb.cell (World.block_lt_of_cell? W p6 h6W)).trans h6W)
      refine wpIn_label ?_
      have hTb : Tr X w0 w' := hT0.trans (Tr.of_below hb)
      have hJb := hJ _ _ _ hJ0 hb
      obtain ⟨b0, off0, rfl, _, _⟩ := HO.out W hT0 0 (bv (bs[0]'(by omega))) (by rw [List.getElem?_map, List.getElem?_eq_getElem (by omega)]; rfl)
      have HFull := hid (show fullP bs cuts = partsGo bs 0 (cuts ++ [(bs.length : Int)]) from if_pos ⟨hr, hN⟩)
      have HR0 := hid hr
      clear hJ0 hT0 h5W h6W HRef hb
      gi_wp2
      gi_loopw [4, 18] (fun t i wr => ∃ (k T : Nat) (xs : List PEl), k ≤ n + 1 ∧ i = .int .i64 k ∧ t = .int .i64 T ∧ T ≤ bs.length ∧ Hid (dataP xs ++ partsGo bs (T : Int) ((cuts ++ [(bs.length : Int)]).drop k) = partsGo bs 0 (cuts ++ [(bs.length : Int)])) ∧ (k ≤ n → T < bs.length) ∧ Hid (riseB bs.length T (cuts.drop k) = true) ∧ J xs wr ∧ Tr X w0 wr) (fun _ i _ => n + 1 - (intOf i).toNat)
      case atStart => exact ⟨0, 0, [], Nat.zero_le _, rfl, rfl, Nat.zero_le _, hid rfl, fun _ => by omega, HR0, hJb, hTb⟩
      case round =>
        obtain ⟨k, T, xs, hk, rfl, rfl, hTN, HD, hTk, HRk, hJk, hT⟩ := hrel
        by_cases hlt : k < n + 1
        · have hTlt := hTk (by omega)
          have hx0 : ∃ X : Nat, (cuts ++ [(bs.length : Int)])[k]? = some (X : Int) ∧ T < X ∧ X ≤ bs.length ∧ (k + 1 ≤ n → X < bs.length) ∧ riseB bs.length X (cuts.drop (k + 1)) = true := by
            rcases Nat.lt_or_ge k n with h | h
            · have hd : cuts.drop k = cuts[k]'(by omega) :: cuts.drop (k + 1) := List.drop_eq_getElem_cons (by omega)
              have h2 := HRk.out
              rw [hd, riseB] at h2
              simp only [Bool.and_eq_true, decide_eq_true_eq] at h2
              refine ⟨(cuts[k]'(by omega)).toNat, ?_, by omega, by omega, fun _ => by omega, ?_⟩
              · rw [List.getElem?_append_left (by omega), List.getElem?_eq_getElem (by omega)]
                congr 1
                omega
              · have e : (((cuts[k]'(by omega)).toNat : Nat) : Int) = cuts[k]'(by omega) := by omega
                rw [e]
                exact h2.2
            · obtain rfl : k = n := by omega
              refine ⟨bs.length, ?_, hTlt, Nat.le_refl _, fun h => by omega, ?_⟩
              · rw [List.getElem?_append_right (by omega), hn, Nat.sub_self]
                rfl
              · rw [List.drop_of_length_le (by omega)]
                rfl
          obtain ⟨X, hX, hTX, hXN, hXk, hRX⟩ := hx0
          have hcell := HZ.out wr hT k (iv (X : Int)) (by rw [List.getElem?_map, hX]; rfl)
          have hdr : (cuts ++ [(bs.length : Int)]).drop k = (X : Int) :: (cuts ++ [(bs.length : Int)]).drop (k + 1) := by
            obtain ⟨h1, h2⟩ := List.getElem?_eq_some_iff.1 hX
            rw [List.drop_eq_getElem_cons h1, h2]
          have hD2 := HD.out
          rw [hdr, partsGo, Int.toNat_natCast, Int.toNat_natCast] at hD2
          have HD2 := hid (fun v => show dataP (xs ++ [mkP (T : Int) v (seg bs T X)]) ++ partsGo bs (X : Int) ((cuts ++ [(bs.length : Int)]).drop (k + 1)) = partsGo bs 0 (cuts ++ [(bs.length : Int)]) from by
            rw [← hD2, dataP_snoc, List.append_assoc]
            rfl)
          have hsl : (seg bs T X).length = X - T := seg_length bs T X hXN
          have HCl := hid (clone_any (some ⟨b0, off0 + T, none⟩) (X - T) (co - T) (seg bs T X) wr hsl (by omega) (by omega) (fun h => by cases h) (fun j u hu => by
            have hj : j < X - T := by
              have := (List.getElem?_eq_some_iff.1 hu).1
              rwa [List.length_map, hsl] at this
            obtain ⟨b', off', he, hb1, hb2⟩ := HO.out wr hT (T + j) u (by
              rw [List.getElem?_map] at hu ⊢
              unfold seg at hu
              rw [List.getElem?_take_of_lt hj, List.getElem?_drop] at hu
              exact hu)
            simp only [Option.some.injEq, Addr.mk.injEq, and_true] at he
            obtain ⟨rfl, rfl⟩ := he
            exact ⟨b0, off0 + T, rfl, hb1, by rw [Nat.add_assoc]; exact hb2⟩))
          have h5r := hT _ _ h5 c5'
          have HK := hid hlt
          have HSl := hid hsl
          have HXk := hid hXk
          have HRX := hid hRX
          have tk : (k : Int) < (n : Int) + 1 := by omega
          clear hX hdr hD2 hsl hlt hTk hXk hRX hk
          unfold iv at hcell
          gi_wp2_with (refine ⟨trivial, rfl, ?_⟩; refine (callsIn_wide.2 HCl.out).mono ?_; rintro e w1 ⟨v, rfl, hsv, hbv⟩; obtain ⟨fn, tmps, assign, body, hy, hRy⟩ := HY.out xs (mkP (T : Int) v (seg bs T X)) w1 (hJ _ _ _ hJk hbv) (by unfold AdP mkP; rw [HSl.out]; exact hsv) ⟨_, (HD2.out v).trans HFull.out.symm⟩; have hy2 : (Instr.yield l #[.int .i64 (T : Int), v]).run Try.prog w1 = .ok (.round l fn tmps assign body) w1 := hy; clear hy)
          refine ⟨rfl, hRy.mono ?_⟩
          rintro e w2 (⟨rfl, hJ2, hkp⟩ | ⟨rfl, hJx2⟩)
          · gi_wp2
            go_roundw
            case rel =>
              exact ⟨k + 1, X, xs ++ [mkP (T : Int) v (seg bs T X)], HK.out, by go_num, rfl, hXN, HD2.out v, HXk.out, HRX, hJ2, hT.trans ((Tr.of_below hbv).trans (Tr.of_keeps hkp))⟩
            case measure =>
              have := HK.out
              simp [intOf]; omega
          · gi_wp2
            simp only [Exit.noGoto_normal]
            refine bodyPost_end (results_none rfl _ _ _) rfl ?_
            exact ⟨⟨_, rfl⟩, .inr ⟨_, ⟨_, (HD2.out v).trans HFull.out.symm⟩, hJx2⟩⟩
        · obtain rfl : k = n + 1 := by omega
          have hd := HD.out
          rw [List.drop_of_length_le (by simp; omega), partsGo, List.append_nil] at hd
          have HD3 := hid hd
          clear hd
          gi_wp2
          simp only [Exit.noGoto_normal]
          refine bodyPost_end (results_none rfl _ _ _) rfl ?_
          exact ⟨⟨_, rfl⟩, .inl ⟨xs, HD3.out.trans HFull.out.symm, hJk⟩⟩
end Go.Proofs.Ytadnhjloeaddnaa
