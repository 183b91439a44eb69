/-
  The walks of the split, ninth part: the least cost, the cut points of least cost.
-/
import Derived.Test.YtadnhjloeaddnaaSplitH
namespace Go.Port
open Go.RowKit

/-- The grain and the maximum out of the argument. -/
def mostN (most : Int) : Nat := (heldI most).toNat
def grainN (most : Int) : Nat := min 1024 (mostN most)
theorem mostN_eq (most : Int) : ((mostN most : Nat) : Int) = heldI most := by
  have := heldI_bounds most
  unfold mostN
  omega
theorem grainN_eq (most : Int) : ((grainN most : Nat) : Int) = min 1024 (heldI most) := by
  have := mostN_eq most
  unfold grainN
  omega
theorem grainN_pos (most : Int) : 0 < grainN most := by
  have := mostN_eq most
  have := heldI_bounds most
  unfold grainN
  omega
theorem grainN_le (most : Int) : grainN most ≤ mostN most := Nat.min_le_right _ _

theorem backGo_length (bs : List UInt8) (g m : Nat) (f k : Nat) : (backGo bs g m f k).length ≤ f := by
  induction f generalizing k with
  | zero => simp [backGo]
  | succ f ih =>
    unfold backGo
    split
    · simp
    · have := ih (way bs g m k).1
      simp only [List.length_cons]
      omega
end Go.Port
namespace Go.Proofs.Ytadnhjloeaddnaa
open Go.RowKit Go.Port

set_option maxRecDepth 100000 in
set_option maxHeartbeats 400000 in
theorem mincost_any (a : Option Addr) (c : Nat) (most : Int) (bs : List UInt8) (w : World) (hNb : bs.length ≤ 200000) (hnb : nPl bs.length (grainN most) ≤ 9001) (hNc : bs.length ≤ c) (hcm : c ≤ maxLen)
    (hc : ∀ j u, (bs.map bv)[j]? = some u → ∃ b off, a = some ⟨b, off, none⟩ ∧ b < w.heap.size ∧ w.cell? ⟨b, off + j, none⟩ = some u) :
    Calls Try.prog 18 #[.slice a bs.length c, .int .i64 most] w (RetV w (.int .i64 (way bs (grainN most) (mostN most) (nPl bs.length (grainN most) - 1)).2)) := by
  have HC := hid (cut_any a c (grainN most) (mostN most) most bs w hNb hnb (mostN_eq most) (grainN_eq most) hNc hcm hc)
  have hn1 : 1 ≤ nPl bs.length (grainN most) := Nat.succ_pos _
  clear hc
  generalize nPl bs.length (grainN most) = n at *
  go_enter Try.func18, Try.ntmps18
  go_wp2_with (go_at_call 30; refine HC.out.mono ?_; rintro e w1 ⟨bp, cp, bw, rfl, h1, h2, hb⟩; have h3 := (h2 (n - 1) (by omega)).2; have HN1 := hid h1; have HN2 := hid h2; clear h1 h2)
  go_ret
  exact ⟨rfl, hb⟩

set_option maxRecDepth 100000 in
set_option maxHeartbeats 1000000 in
theorem cuts_any (a : Option Addr) (c : Nat) (most : Int) (bs : List UInt8) (w : World) (hNb : bs.length ≤ 200000) (hnb : nPl bs.length (grainN most) ≤ 9001) (hNc : bs.length ≤ c) (hcm : c ≤ maxLen)
    (hc : ∀ j u, (bs.map bv)[j]? = some u → ∃ b off, a = some ⟨b, off, none⟩ ∧ b < w.heap.size ∧ w.cell? ⟨b, off + j, none⟩ = some u) :
    Calls Try.prog 13 #[.slice a bs.length c, .int .i64 most] w (RetSl w 1 (cutsS bs (grainN most) (mostN most)).length ((cutsS bs (grainN most) (mostN most)).map fun (x : Nat) => iv (x : Int))) := by
  have HC := hid (cut_any a c (grainN most) (mostN most) most bs w hNb hnb (mostN_eq most) (grainN_eq most) hNc hcm hc)
  have hn1 : 1 ≤ nPl bs.length (grainN most) := Nat.succ_pos _
  have hgm := grainN_le most
  have HCS := hid (show cutsS bs (grainN most) (mostN most) = (backGo bs (grainN most) (mostN most) (nPl bs.length (grainN most)) (way bs (grainN most) (mostN most) (nPl bs.length (grainN most) - 1)).1).reverse from rfl)
  have hw1 := way_le bs (grainN most) (mostN most) hgm (nPl bs.length (grainN most) - 1)
  have hfl := backGo_length bs (grainN most) (mostN most) (nPl bs.length (grainN most)) (way bs (grainN most) (mostN most) (nPl bs.length (grainN most) - 1)).1
  clear hc
  generalize grainN most = g at *
  generalize mostN most = m at *
  generalize nPl bs.length g = n at *
  generalize hfull : backGo bs g m n (way bs g m (n - 1)).1 = full at *
  go_enter Try.func13, Try.ntmps13
  go_wp2_with (go_at_call 30; refine HC.out.mono ?_; rintro e w1 ⟨bp, cp, bw, rfl, h1, h2, hb⟩; have h3 := (h2 (n - 1) (by omega)).1; have HN1 := hid h1; have HN2 := hid h2; clear h1 h2)
  have HF := hid hfull
  clear hfull
  go_loopw [4, 7] (fun v x wr => ∃ (q f : Nat) (pre : List Nat), x = .int .i64 q ∧ q ≤ f ∧ q < n ∧ Hid (pre ++ backGo bs g m f q = full) ∧ wr.ownsRow w1.heap.size 3 1 v pre.length (pre.map fun (x : Nat) => iv (x : Int)) ∧ Below w1.heap.size w1 wr) (fun _ x _ => (intOf x).toNat)
  case atStart => exact ⟨_, n, [], rfl, by omega, by omega, hid (by simpa using HF.out), World.ownsRow_nil _ _ _ _, Below.refl _ _⟩
  case round =>
    obtain ⟨q, f, pre, rfl, hqf, hqn, HP, hown, hB⟩ := hrel
    have hsz := hB.size
    by_cases hq : 0 < q
    · obtain ⟨f, rfl⟩ : ∃ f', f = f' + 1 := ⟨f - 1, by omega⟩
      have hp := HP.out
      rw [backGo, if_neg (by omega)] at hp
      have hpl : pre.length + 1 ≤ n := by
        have : (pre ++ place bs.length g q :: backGo bs g m f (way bs g m q).1).length = full.length := by rw [hp]
        simp at this
        omega
      have hwl : (way bs g m q).1 < q := by
        obtain ⟨q', rfl⟩ : ∃ q', q = q' + 1 := ⟨q - 1, by omega⟩
        have := (way_spec bs g m hgm q').1
        omega
      have h1 := HN1.out q hqn
      have h2 := (HN2.out q hqn).1
      have hb1 : bp < w1.heap.size := World.block_lt_of_cell? w1 _ h1
      have hb2 : bw < w1.heap.size := World.block_lt_of_cell? w1 _ h2
      have h1r := (hB.cell (p := ⟨bp, 0 + q, none⟩) hb1).trans h1
      have h2r := (hB.cell (p := ⟨bw, q * 2, none⟩) hb2).trans h2
      rw [Nat.zero_add] at h1r
      have HP2 := hid (show (pre ++ [place bs.length g q]) ++ backGo bs g m f (way bs g m q).1 = full from by rw [List.append_assoc]; exact hp)
      have H2 := hid h2
      have HQ := hid hqn
      have tq : (0 : Int) < (q : Int) := by omega
      have tn : (q : Int) < (n : Int) := by omega
      clear hp h1 h2 h2r hq
      go_wp2_with (at_builtin; refine Hid.out ?_)
      refine hid ?_
      refine wpList_append1 rfl _ _ 29 rfl 3 _ 1 8 Try.underlying29 Try.info_int rfl (by decide) (by decide) _ w1.heap.size _ _ _ _ rfl ?hu rfl rfl (by exact hown) ?hn ?hb ?hk
      case hu => simp [Value.oneCell']
      case hn => omega
      case hb => exact hsz
      case hk =>
        intro v' w2 hown' hg
        have hB' := hB.trans (below_grown hown hg hsz)
        have h2r := (hB'.cell (p := ⟨bw, q * 2, none⟩) hb2).trans H2.out
        go_wp2
        go_roundw
        case rel => exact ⟨(way bs g m q).1, f, pre ++ [place bs.length g q], rfl, by omega, by omega, HP2, by rw [List.length_append, List.map_append]; exact hown', hB'⟩
        case measure => simp [intOf]; omega
    · obtain rfl : q = 0 := by omega
      have hp := HP.out
      have hbk : backGo bs g m f 0 = [] := by cases f <;> rfl
      rw [hbk, List.append_nil] at hp
      subst hp
      clear HP hq hbk
      have hbw0 : Below w.heap.size w w1 := hb
      by_cases h0 : pre.length = 0
      · obtain ⟨av, cv, rfl⟩ := own_slice hown
        have hpre : pre = [] := List.eq_nil_of_length_eq_zero h0
        subst hpre
        have HRv := hid (Try.slices_Reverse_int_empty av cv wr)
        have HSl := hid (Sl.of_owns hown)
        have HE := hid (show cutsS bs g m = [] from by rw [HCS.out]; rfl)
        clear hown h0
        go_wp2_with (go_at_call 31; refine HRv.out.mono ?_; rintro e w' ⟨rfl, rfl⟩)
        go_ret
        refine ⟨_, rfl, ?_, hbw0.trans (hB.mono hbw0.size)⟩
        rw [HE.out]
        exact HSl.out
      · obtain ⟨G, cap, cs, rfl, hGb, hcap, hcap2, hBG, hcs⟩ := own_blk hown (by omega)
        have hcl : pre.length ≤ cs.length := by
          have := congrArg List.length hcs
          simp at this
          omega
        have hcj : ∀ j, j < pre.length → cs[j]? = some (.int .i64 ((pre.map fun (x : Nat) => (x : Int)).getD j 0)) := fun j hj => by
          have h1 : (cs.take (pre.length * 1))[j]? = some (iv ((pre[j] : Nat) : Int)) := by
            rw [hcs, List.getElem?_map, List.getElem?_eq_getElem hj]
            rfl
          rw [List.getElem?_take_of_lt (by omega)] at h1
          rw [h1, List.getD_eq_getElem?_getD, List.getElem?_map, List.getElem?_eq_getElem hj]
          rfl
        have HRv := hid (Try.slices_Reverse_int_cells G 0 pre.length cap (pre.map fun (x : Nat) => (x : Int)) wr (by simp) (by omega) (fun j hj => by
          rw [Nat.zero_add]
          exact hBG.cell (hcj j (by simpa using hj))) (fun j _ => hBG.frozen _))
        have HSl : ∀ q : Nat, Sl ((wr.drewN q).setCells G 0 (((pre.map fun (x : Nat) => (x : Int)).take pre.length).reverse.map (Value.int .i64))) 1 (.slice (some ⟨G, 0, none⟩) pre.length cap) pre.length ((cutsS bs g m).map fun (x : Nat) => iv (x : Int)) := fun q => by
          have hb0 : Blk (wr.drewN q) G cs 3 := hBG
          obtain ⟨vs', k1, k2, k3⟩ := hb0.setCells (((pre.map fun (x : Nat) => (x : Int)).take pre.length).reverse.map (Value.int .i64)) 0 (by simp; omega)
          have hs := Sl.of_blk (sz := 1) k1 pre.length cap hcap hcap2 (by omega)
          have he : vs'.take (pre.length * 1) = (cutsS bs g m).map fun (x : Nat) => iv (x : Int) := by
            rw [HCS.out]
            have hlen : (((pre.map fun (x : Nat) => (x : Int)).take pre.length).reverse.map (Value.int .i64)).length = pre.length := by simp
            have hre : (((pre.map fun (x : Nat) => (x : Int)).take pre.length).reverse.map (Value.int .i64)) = pre.reverse.map fun (x : Nat) => iv (x : Int) := by
              rw [List.take_of_length_le (by simp), ← List.map_reverse, List.map_map]
              rfl
            apply List.ext_getElem?
            intro j
            by_cases hj : j < pre.length
            · rw [List.getElem?_take_of_lt (by omega), k3 j, if_pos (by omega), Nat.sub_zero, hre]
            · rw [List.getElem?_eq_none (by simp; omega), List.getElem?_eq_none (by simp; omega)]
          rwa [he] at hs
        have HLn := hid (show (cutsS bs g m).length = pre.length from by rw [HCS.out]; simp)
        have HRv2 := hid (show Calls Try.prog 31 #[.slice (some ⟨G, 0, none⟩) pre.length cap] wr fun e w' => e = .returned (.tuple #[]) ∧ Sl w' 1 (.slice (some ⟨G, 0, none⟩) pre.length cap) pre.length ((cutsS bs g m).map fun (x : Nat) => iv (x : Int)) ∧ Below w.heap.size w w' from
          HRv.out.mono fun e w' ⟨he, q, hw⟩ => ⟨he, by rw [hw]; exact HSl q, by rw [hw]; exact below_setCells (Nat.le_trans hbw0.size hGb) _ _ (below_drewN (hbw0.trans (hB.mono hbw0.size)) q)⟩)
        clear hown h0 hcj hcs HSl HRv
        go_wp2_with (go_at_call 31; refine HRv2.out.mono ?_; rintro e w' ⟨rfl, hsl, hbl⟩)
        go_ret
        refine ⟨_, rfl, ?_, hbl⟩
        rw [HLn.out]
        exact hsl
end Go.Proofs.Ytadnhjloeaddnaa
