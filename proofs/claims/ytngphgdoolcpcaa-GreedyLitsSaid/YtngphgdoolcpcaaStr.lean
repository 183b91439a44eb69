/-
  Bytes turned to a string, of no program.
-/
import Derived.Test.YtngphgdoolcpcaaBase
import Derived.Laws.BytesArg
namespace Go.Port
open Go.RowKit

theorem run_str {P : Program} (w : World) (src dst e : TypeId) (hs : P.underlying src = some (.slice e)) (he : P.underlying e = some (.int .u8)) (hd : P.underlying dst = some .string) (a : Option Addr) (n c : Nat) (bs : List UInt8) (hn : bs.length = n)
    (hc : ∀ j u, (bs.map bv)[j]? = some u → ∃ b off, a = some ⟨b, off, none⟩ ∧ b < w.heap.size ∧ w.cell? ⟨b, off + j, none⟩ = some u) :
    (convert src dst (.slice a n c)).run P w = .ok (.string ⟨bs.toArray⟩) w := by
  subst hn
  cases a with
  | none =>
    have : bs = [] := by
      cases bs with
      | nil => rfl
      | cons x r =>
        obtain ⟨_, _, h, _⟩ := hc 0 (bv x) rfl
        cases h
    subst this
    exact run_convert_bytes_nil w src e hs he _ _ dst hd
  | some a =>
    have hl : (loadCells a bs.length).run P w = .ok ((bs.map fun x => (x.toNat : Int)).map (Value.int .u8)).toArray w := by
      have h := run_loadCells_list (P := P) w a (bs.map bv) (fun j v hj => by
        obtain ⟨b, off, e1, _, e2⟩ := hc j v hj
        cases e1
        have hplain : (⟨b, off, none⟩ : Addr).add j = ⟨b, off + j, none⟩ := by unfold Addr.add; split <;> simp_all
        rw [hplain]
        exact e2)
      rw [List.length_map] at h
      rw [h, List.map_map]
      rfl
    rw [run_convert_bytes_string w src dst e _ _ c hs he hd, run_bytesToString w a bs.length c _ hl, foldl_push_bytes]
    have hm : (bs.map fun x => (x.toNat : Int)).map (fun n => UInt8.ofNat n.toNat) = bs := by
      rw [List.map_map]
      conv => rhs; rw [← List.map_id bs]
      refine List.map_congr_left fun x _ => ?_
      simp
    rw [hm]
    have he2 : ByteArray.empty.data ++ bs.toArray = bs.toArray := by
      have : ByteArray.empty.data = #[] := rfl
      rw [this]
      simp
    rw [he2]
end Go.Port
