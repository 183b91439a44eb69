/-
  The walks of layer 27, fourth part: the chain of earlier positions is gathered; its iterator.
-/
import Derived.Test.YtngphgdoolcpcaaIxC
namespace Go.Port
open Go.RowKit
/-- The elements with their numbers. -/
def enumN (l : List Nat) : List (Int × Nat) := l.zipIdx.map fun p => ((p.2 : Int), p.1)
theorem enumN_snoc (l : List Nat) (x : Nat) : enumN (l ++ [x]) = enumN l ++ [((l.length : Int), x)] := by
  unfold enumN
  rw [List.zipIdx_append, List.map_append]
  simp
theorem enumN_snd (l : List Nat) : (enumN l).map (·.2) = l := by
  unfold enumN
  rw [List.map_map]
  have : ((fun p : Int × Nat => p.2) ∘ fun p : Nat × Nat => ((p.2 : Int), p.1)) = Prod.fst := rfl
  rw [this, List.zipIdx_map_fst]
theorem enumN_take {l : List Nat} {k : Nat} {x : Nat} (h : l[k]? = some x) : enumN (l.take (k + 1)) = enumN (l.take k) ++ [((k : Int), x)] := by
  obtain ⟨h1, h2⟩ := List.getElem?_eq_some_iff.1 h
  rw [List.take_succ_eq_append_getElem h1, h2, enumN_snoc, List.length_take, Nat.min_eq_left (Nat.le_of_lt h1)]
theorem enumN_pre (l : List Nat) (k : Nat) : ∃ rest, enumN (l.take k) ++ rest = enumN l := by
  refine ⟨(enumN l).drop (enumN (l.take k)).length, ?_⟩
  have h : enumN (l.take k) = (enumN l).take k := by
    unfold enumN
    rw [← List.map_take]
    congr 1
    apply List.ext_getElem?
    intro i
    simp only [List.getElem?_zipIdx, List.getElem?_take]
    split <;> simp
  rw [h]
  have : ((enumN l).take k).length = min k (enumN l).length := List.length_take
  rw [this]
  rcases Nat.le_total k (enumN l).length with hk | hk
  · rw [Nat.min_eq_left hk, List.take_append_drop]
  · rw [Nat.min_eq_right hk, List.take_of_length_le hk, List.drop_length, List.append_nil]
def encsN (x : Int × Nat) : Array Value := #[.int .i64 x.1, .int .i64 (x.2 : Int)]
/-- A position and its distance. -/
def encsD (own : Int) (x : Nat) : Array Value := #[.int .i64 (x : Int), .int .i64 (own - (x : Int))]
end Go.Port
namespace Go.Proofs.Ytngphgdoolcpcaa
open Go.RowKit Go.Port

attribute [local go_sem] Oper.semAt_some

set_option maxRecDepth 100000 in
set_option maxHeartbeats 2000000 in
theorem xgone_any (bs : List UInt8) (X c : Nat) (p : Int) (w : World) (hn : bs.length ≤ 1000000) (h : IxAt 119 bs X w) (hc : w.cell? ⟨c, 0, none⟩ = some (.pointer (some ⟨X, 0, none⟩))) (hcl : c < w.heap.size) :
    Calls Try.prog 69 #[.int .i64 p, .func (.func 70) #[] #[.pointer (some ⟨c, 0, none⟩)]] w fun e w' => ∃ v, e = .returned v ∧ w'.ownsRow w.heap.size 3 1 v (chainS bs p).length ((chainS bs p).map natI) ∧ Below w.heap.size w w' := by
  have HNx := hid (fun (W : World) (hW : Below w.heap.size w W) (q : Int) => (show Calls Try.prog 70 #[.int .i64 q, .pointer (some ⟨c, 0, none⟩)] W fun e w' => e = .returned (.tuple #[.int .i64 (((prevO bs q).getD 0 : Nat) : Int), .bool (prevO bs q).isSome]) ∧ W = w' from xnext_any bs X c q W hn (h.low hW) ((hW.cell (p := ⟨c, 0, none⟩) hcl).trans hc)))
  clear h hc
  have hL := chainS_length bs p
  go_enter Try.func69, Try.ntmps69
  go_wp2_with fail
  refine (HNx.out w (Below.refl _ _) p).mono ?_
  rintro e w' ⟨rfl, rfl⟩
  go_wp2_with fail
  go_loopg [4, 5, 6] (chainS bs p).length (fun g v x is wr => ∃ (pre rest : List Nat) (q : Option Nat), Hid (chainS bs p = pre ++ rest) ∧ rest.length = g ∧ Hid (rest.head? = q) ∧ x = .int .i64 (((q.getD 0 : Nat) : Int)) ∧ is = .bool q.isSome ∧ Hid (∀ y r, rest = y :: r → r = chainS bs (y : Int)) ∧ wr.ownsRow w.heap.size 3 1 v pre.length (pre.map natI) ∧ Below w.heap.size w wr)
  case atStart =>
    exact ⟨[], chainS bs p, prevO bs p, hid rfl, rfl, hid (chainS_head bs p), rfl, rfl, hid (fun y r e => (chainS_cons e).2), World.ownsRow_nil _ _ _ _, Below.refl _ _⟩
  case round =>
    obtain ⟨pre, rest, q, HL, hg, HQ, rfl, rfl, HR, hown, hB⟩ := hrel
    cases q with
    | none =>
      have hr : rest = [] := List.head?_eq_none_iff.1 HQ.out
      subst hr
      have hE := HL.out
      rw [List.append_nil] at hE
      have HE := hid hE
      have HO := hid hown
      have HB := hid hB
      clear hown hB hE
      go_wp2
      go_ret
      rw [HE.out]
      exact ⟨_, rfl, HO.out, HB.out⟩
    | some y =>
      obtain ⟨r, rfl⟩ : ∃ r, rest = y :: r := by
        have := HQ.out
        cases rest with
        | nil => cases this
        | cons z r => cases this; exact ⟨r, rfl⟩
      have hr := HR.out y r rfl
      have hpl : pre.length + 1 ≤ bs.length := by
        have h1 := hL
        rw [HL.out] at h1
        simp only [List.length_append, List.length_cons] at h1
        omega
      have HRr := hid hr
      have HO := hid hown
      have HB := hid hB
      have HG := hid hg
      have hs : w.heap.size ≤ wr.heap.size := hB.size
      clear hr hown hB hg HQ HR
      obtain ⟨av, cv, rfl⟩ := own_slice HO.out
      simp only [Option.getD_some, Option.isSome_some]
      go_wp2_with (at_builtin; refine Hid.out ?_)
      refine hid ?_
      refine wpList_append1 rfl _ _ 49 rfl 3 _ 1 8 Try.underlying49 Try.info_int rfl (by decide) (by decide) _ w.heap.size _ _ _ [.int .i64 (y : Int)] rfl ?hu rfl rfl (by exact HO.out) ?hn hs ?hk
      case hu => simp [Value.oneCell']
      case hn => omega
      case hk =>
        intro v' w3 hown' hg
        have hbg := below_grown HO.out hg hs
        have HB3 := hid (HB.out.trans hbg)
        have HO3 := hid hown'
        clear hown' hg hbg
        go_wp2_with fail
        refine (HNx.out w3 HB3.out (y : Int)).mono ?_
        rintro e w' ⟨rfl, rfl⟩
        have HN2 := hid (show r.head? = prevO bs (y : Int) from by rw [HRr.out, chainS_head])
        generalize prevO bs (y : Int) = o at *
        go_wp2_with fail
        go_roundg r.length
        case measure => have := HG.out; simp only [List.length_cons] at this; omega
        case rel =>
          refine ⟨pre ++ [y], r, o, hid (by rw [HL.out]; simp), rfl, HN2, rfl, rfl, hid (fun z t e => ?_), ?_, HB3.out⟩
          · rw [HRr.out] at e
            exact (chainS_cons e).2
          · rw [List.length_append, List.map_append]
            exact HO3.out

theorem xall_any (a : Option Addr) (n c : Nat) (w : World) :
    Calls Try.prog 73 #[.slice a n c] w fun e w' => e = .returned (.func (.func 85) #[] #[.pointer (some ⟨w.heap.size, 0, none⟩)]) ∧ w.alloc (.cells #[.slice a n c] 49) = w' := by
  go_enter Try.func73, Try.ntmps73
  go_wp2
  go_ret
  exact ⟨rfl, rfl⟩

set_option maxRecDepth 100000 in
set_option maxHeartbeats 2000000 in
theorem xall_seq (X : Nat → Prop) (T : TypeId → Bool) (p : Nat) (a : Option Addr) (c : Nat) (l : List Nat) (w0 : World) (hl : l.length ≤ 1000000) (hp : X p) (hb : w0.cell? ⟨p, 0, none⟩ = some (.slice a l.length c))
    (hc : ∀ j u, (l.map natI)[j]? = some u → ∃ b off, a = some ⟨b, off, none⟩ ∧ X b ∧ w0.cell? ⟨b, off + j, none⟩ = some u) :
    SeqSt Try.prog 85 #[.pointer (some ⟨p, 0, none⟩)] encsN (fun xs => xs = enumN l) (fun xs => ∃ rest, xs ++ rest = enumN l) X T w0 := by
  intro lp J Jx W hW hJ hJx hY hJ0
  have hT0 : TrX X w0 W := TrX.low hW
  have hpW := hT0 _ _ (show X (⟨p, 0, none⟩ : Addr).block from hp) hb
  have HC := hid (fun (W' : World) (hT : TrX X w0 W') j u hu => (show ∃ b off, a = some ⟨b, off, none⟩ ∧ b < W'.heap.size ∧ W'.cell? ⟨b, off + j, none⟩ = some u from by
    obtain ⟨b, off, e, hb, hc⟩ := hc j u hu
    have := hT ⟨b, off + j, none⟩ u hb hc
    exact ⟨b, off, e, World.block_lt_of_cell? W' _ this, this⟩))
  have HY := hid hY
  have hT := hT0
  clear hc hY hT0 hb hJx hJ
  refine callsIn_of_wp Try.func85 rfl trivial ?_ rfl
  simp only [Try.ntmps85, List.size_toArray, List.length_cons, List.length_nil, Nat.reduceAdd, Nat.reduceSub, Array.replicate_succ, Array.replicate_zero, List.push_toArray, List.append_toArray, List.nil_append, List.cons_append]
  gi_wp2
  gi_loopw [7] (fun i wr => ∃ (k : Nat), k ≤ l.length ∧ i = .int .i64 k ∧ J (enumN (l.take k)) wr ∧ TrX X w0 wr) (fun i _ => l.length - (intOf i).toNat)
  case atStart => exact ⟨0, Nat.zero_le _, rfl, hJ0, hT⟩
  case round =>
    obtain ⟨k, hk, rfl, hJk, hTr⟩ := hrel
    by_cases hlt : k < l.length
    · obtain ⟨x, hx⟩ : ∃ x, l[k]? = some x := ⟨l[k], by simp [hlt]⟩
      obtain ⟨bl, off, rfl, hb0, c0⟩ := HC.out wr hTr k (natI x) (by rw [List.getElem?_map, hx]; rfl)
      unfold natI at c0
      have HST := hid (enumN_take hx)
      have HPre := hid (enumN_pre l (k + 1))
      have HT := hid hTr
      have HK := hid hlt
      obtain ⟨fn, tmps, assign, body, hy, hRy⟩ := HY.out (enumN (l.take k)) ((k : Int), x) wr hJk (by rw [← HST.out]; exact HPre.out)
      have hy2 : (Instr.yield lp #[.int .i64 (k : Int), .int .i64 (x : Int)]).run Try.prog wr = .ok (.round lp fn tmps assign body) wr := hy
      have HRy := hid hRy
      clear hx hTr hJk hk hlt hy hRy
      have tk : (k : Int) < (l.length : Int) := by have := HK.out; omega
      gi_wp2
      refine ⟨rfl, HRy.out.mono ?_⟩
      rintro e w2 ⟨hkp, (⟨rfl, hJ2⟩ | ⟨rfl, hJx2⟩)⟩
      · gi_wp2
        go_roundw
        case rel =>
          refine ⟨k + 1, HK.out, by go_num, ?_, HT.out.trans (TrX.of_keeps hkp)⟩
          rw [HST.out]
          exact hJ2
        case measure =>
          have := HK.out
          simp [intOf]; omega
      · have HE := hid (show ∃ rest, (enumN (l.take k) ++ [((k : Int), x)]) ++ rest = enumN l from by rw [← HST.out]; exact HPre.out)
        gi_wp2
        refine bodyPost_ret (results_none rfl _ _ _) rfl ?_
        exact ⟨⟨_, rfl⟩, .inr ⟨_, HE.out, hJx2⟩⟩
    · obtain rfl : k = l.length := by omega
      rw [List.take_of_length_le (Nat.le_refl _)] at hJk
      gi_wp2
      refine bodyPost_end (results_none rfl _ _ _) rfl ?_
      exact ⟨⟨_, rfl⟩, .inl ⟨_, rfl, hJk⟩⟩
end Go.Proofs.Ytngphgdoolcpcaa
