/-
  The walks of the split, fourth part: the difference of two rows of counts.
-/
import Derived.Test.YtadnhjloeaddnaaSplitC
import Derived.Deep.MidRow
import Derived.ChangeKeysEq
namespace Go.Port
def lessK (h1 h2 : List Int) (k : Nat) : List Int := List.zipWith (· - ·) (h1.take k) (h2.take k) ++ h1.drop k

theorem lessK_step (h1 h2 : List Int) (k : Nat) (x y : Int) (hx : h1[k]? = some x) (hy : h2[k]? = some y) : lessK h1 h2 (k + 1) = (lessK h1 h2 k).set k (x - y) := by
  have l1 : k < h1.length := (List.getElem?_eq_some_iff.1 hx).1
  have l2 : k < h2.length := (List.getElem?_eq_some_iff.1 hy).1
  have e1 : h1[k] = x := by simpa [l1] using hx
  have e2 : h2[k] = y := by simpa [l2] using hy
  have hd : h1.drop k = x :: h1.drop (k + 1) := by rw [List.drop_eq_getElem_cons l1, e1]
  have hlen : (List.zipWith (· - ·) (h1.take k) (h2.take k)).length = k := by simp; omega
  unfold lessK
  rw [List.take_succ_eq_append_getElem l1, List.take_succ_eq_append_getElem l2, e1, e2, List.zipWith_append (by simp; omega), hd, List.set_append_right _ _ (by omega), hlen]
  simp

theorem lessK_get (h1 h2 : List Int) (k : Nat) (x : Int) (hl : h1.length = h2.length) (hx : h1[k]? = some x) : (lessK h1 h2 k)[k]? = some x := by
  have l1 : k < h1.length := (List.getElem?_eq_some_iff.1 hx).1
  unfold lessK
  rw [List.getElem?_append_right (by simp; omega)]
  have : (List.zipWith (· - ·) (h1.take k) (h2.take k)).length = k := by simp; omega
  rw [this, Nat.sub_self, List.getElem?_drop, Nat.add_zero]
  exact hx

theorem run_index_arr {P : Program} (t e : TypeId) (n : Nat) (i : TypeInfo) (cs : Array Value) (k : Nat) (v : Value) (h : P.underlying t = some (.array n e)) (he : P.plainKey e = true) (hi : P.info? e = some i) (hc : P.cellsOf e = 1) (hk : k < n) (hv : cs[k]? = some v) (w : World) :
    (Instr.index t (.agg cs) (.int .i64 (k : Int))).run P w = .ok v w := by
  have hn : (0 : Int) ≤ (k : Int) ∧ (k : Int) < (n : Int) := by omega
  have hp := run_part_plain (P := P) w (off := k) he hv
  simp only [Instr.index, Sem.run_bind, run_underlying h, asIntOf, Result.andThen_ok, Sem.run_pure, if_pos hn, run_sizeOf w hi, hc, Int.toNat_natCast, Nat.mul_one]
  exact hp
end Go.Port
namespace Go.Proofs.Ytadnhjloeaddnaa
open Go.RowKit Go.Port

theorem Try.size84 : (Try.prog.info? 84).map (·.size) = some 256 := by kernel_rfl
theorem Try.size86 : (Try.prog.info? 86).map (·.size) = some 256 := by kernel_rfl
theorem index84 (cs : Array Value) (k : Nat) (v : Value) (hk : k < 256) (hv : cs[k]? = some v) (w : World) : (Instr.index 84 (.agg cs) (.int .i64 (k : Int))).run Try.prog w = .ok v w := by
  obtain ⟨i, hi, _⟩ := info_parts Try.info_int
  exact run_index_arr 84 3 256 i cs k v Try.underlying84 (by kernel_rfl) hi (by kernel_rfl) hk hv w

set_option maxRecDepth 100000 in
set_option maxHeartbeats 800000 in
theorem less_any (h1 h2 : List Int) (w : World) (l1 : h1.length = 256) (l2 : h2.length = 256) (hb1 : ∀ x ∈ h1, Cnt x) (hb2 : ∀ x ∈ h2, Cnt x) :
    Calls Try.prog 49 #[.agg (h1.map iv).toArray, .agg (h2.map iv).toArray] w fun e w' => ∃ b, e = .returned (.slice (some ⟨b, 0, none⟩) 256 256) ∧ Blk w' b ((List.zipWith (· - ·) h1 h2).map iv) 86 ∧ Below w.heap.size w w' := by
  have hidx := fun (k : Nat) (y : Int) (hy : h2[k]? = some y) (hk : k < 256) => index84 (h2.map iv).toArray k (.int .i64 y) hk (by simp [hy, iv])
  have HI := hid hidx
  have B1 := Blk.new w (h1.map iv) 86
  have B2 := Blk.new (w.alloc (.cells (h1.map iv).toArray 86)) (h2.map iv) 86
  have hr2 := World.rangeAt_of_block B2 0 256
  have hex : ((h2.map iv).toArray.extract 0 (0 + 256)).toList = h2.map iv := by
    rw [List.extract_toArray, List.toList_toArray, List.extract_eq_take_drop, List.drop_zero, List.take_of_length_le (by rw [List.length_map, l2]; omega)]
  have hsz : (w.alloc (.cells (h1.map iv).toArray 86)).heap.size = w.heap.size + 1 := by simp
  rw [hex, hsz] at hr2
  have HR2 := hid hr2
  have HB1 := hid B1
  clear hidx B1 B2 hr2 hex hsz
  generalize hA1 : (h1.map iv).toArray = A1 at *
  generalize hA2 : (h2.map iv).toArray = A2 at *
  go_enter Try.func49, Try.ntmps49
  go_wp2
  refine wp_load_mid 84 _ rfl _ 0 rfl (h2.map iv) _ HR2.out Try.underlying84 rfl (by rw [List.length_map, l2]; exact Try.size84) ?_
  rw [hA2]
  go_wp2
  go_loopw [9] (fun i wr => ∃ k : Nat, k ≤ 256 ∧ i = .int .i64 k ∧ Blk wr w.heap.size ((lessK h1 h2 k).map iv) 86 ∧ Below w.heap.size w wr) (fun i _ => 256 - (intOf i).toNat)
  case atStart => exact ⟨0, by omega, rfl, by have := HB1.out.alloc (.cells A2 86); simpa [lessK] using this, (below_new w _).alloc (by simp) _⟩
  case round =>
    obtain ⟨k, hk, rfl, hB, hb⟩ := hrel
    by_cases hlt : k < 256
    · obtain ⟨x, hx⟩ : ∃ x, h1[k]? = some x := ⟨h1[k]'(by omega), by simp [l1, hlt]⟩
      obtain ⟨y, hy⟩ : ∃ y, h2[k]? = some y := ⟨h2[k]'(by omega), by simp [l2, hlt]⟩
      have hxc := hb1 x (List.mem_of_getElem? hx)
      have hyc := hb2 y (List.mem_of_getElem? hy)
      unfold Cnt at hxc hyc
      have hidx := HI.out k y hy hlt
      have hcell := hB.cell (k := k) (u := .int .i64 x) (by rw [List.getElem?_map, lessK_get h1 h2 k x (by omega) hx]; rfl)
      have hfz := hB.frozen k
      have HS := hid (lessK_step h1 h2 k x y hx hy)
      have HK := hid hlt
      have t1 : (k : Int) < 256 := by omega
      clear hx hy hlt hk
      go_wp2
      go_roundw
      case rel =>
        refine ⟨k + 1, HK.out, by go_num, ?_, hb.setCell (Nat.le_refl _) _⟩
        rw [HS.out, List.map_set]
        exact hB.set k _
      case measure =>
        have := HK.out
        simp [intOf]; omega
    · obtain rfl : k = 256 := by omega
      have HE := hid (show lessK h1 h2 256 = List.zipWith (· - ·) h1 h2 from by
        unfold lessK
        rw [List.take_of_length_le (by omega), List.take_of_length_le (by omega), List.drop_of_length_le (by omega), List.append_nil])
      clear hlt hk
      go_wp2
      go_ret
      exact ⟨_, rfl, by rw [HE.out] at hB; exact hB, hb⟩
end Go.Proofs.Ytadnhjloeaddnaa
