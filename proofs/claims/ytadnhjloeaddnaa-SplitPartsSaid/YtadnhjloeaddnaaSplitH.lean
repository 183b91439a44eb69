/-
  The walks of the split, eighth part: the table of the cheapest ways.
-/
import Derived.Test.YtadnhjloeaddnaaSplitG
import Derived.Test.YtadnhjloeaddnaaSplitPlain2
namespace Go.Port
open Go.RowKit

/-- The places as ints. -/
def PL (bs : List UInt8) (g k : Nat) : List Int := (List.range k).map fun j => ((place bs.length g j : Nat) : Int)
theorem PL_length (bs : List UInt8) (g k : Nat) : (PL bs g k).length = k := by simp [PL]
theorem PL_succ (bs : List UInt8) (g k : Nat) : PL bs g (k + 1) = PL bs g k ++ [((place bs.length g k : Nat) : Int)] := by simp [PL, List.range_succ]
theorem PL_get (bs : List UInt8) (g n k : Nat) (h : k < n) : (PL bs g n)[k]? = some ((place bs.length g k : Nat) : Int) := by simp [PL, List.getElem?_range h]
theorem PL_pairwise (bs : List UInt8) (g : Nat) (hg : 0 < g) : (PL bs g (nPl bs.length g)).Pairwise (· < ·) := by
  unfold PL
  rw [List.pairwise_map]
  refine List.Pairwise.imp_of_mem ?_ (List.pairwise_lt_range (n := nPl bs.length g))
  intro i j _ hj h
  have := place_strict bs.length g hg h (List.mem_range.1 hj)
  omega

theorem own_slice {w : World} {base sz n : Nat} {e : TypeId} {v : Value} {xs : List Value} (h : w.ownsRow base e sz v n xs) : ∃ a c, v = .slice a n c := by
  obtain ⟨hl, h2⟩ := h
  rcases h2 with ⟨rfl, rfl⟩ | ⟨g, cap, cur, rfl, _⟩
  · exact ⟨_, _, rfl⟩
  · exact ⟨_, _, rfl⟩
theorem own_blk {w : World} {base sz n : Nat} {e : TypeId} {v : Value} {xs : List Value} (h : w.ownsRow base e sz v n xs) (hn : 0 < n) :
    ∃ g cap cs, v = .slice (some ⟨g, 0, none⟩) n cap ∧ base ≤ g ∧ n ≤ cap ∧ cap ≤ maxLen ∧ Blk w g cs e ∧ cs.take (n * sz) = xs := by
  obtain ⟨hl, h2⟩ := h
  rcases h2 with ⟨_, rfl⟩ | ⟨g, cap, cur, hv, h3, h4, h5, h6, _, h7⟩
  · omega
  · exact ⟨g, cap, cur.toList, hv, h3, h5, h6, by unfold Blk; simpa using h4, h7⟩
theorem own_other {w : World} {base sz n : Nat} {e : TypeId} {v : Value} {xs : List Value} (h : w.ownsRow base e sz v n xs) {a : Addr} (u : Value) (ha : a.block < base) : (w.setCell a u).ownsRow base e sz v n xs := by
  obtain ⟨hl, h2⟩ := h
  rcases h2 with h2 | ⟨g, cap, cur, hv, h3, h4, h5⟩
  · exact ⟨hl, .inl h2⟩
  · exact ⟨hl, .inr ⟨g, cap, cur, hv, h3, (Below.heap_setCell w a u g (by omega)).trans h4, h5⟩⟩

theorem made_two (n : Nat) : (madeCells (Value.agg #[.int .i64 0, .int .i64 0]).cells (n * 2)).toList = List.replicate (n * 2) (.int .i64 0) := by
  apply List.ext_getElem?
  intro j
  simp only [madeCells, Value.cells, Array.toList_map, Array.toList_range, List.getElem?_map, List.getElem?_replicate]
  by_cases h : j < n * 2
  · rw [List.getElem?_range h, if_pos h]
    have : j % 2 = 0 ∨ j % 2 = 1 := by omega
    rcases this with e | e <;> simp [e]
  · rw [if_neg h, List.getElem?_eq_none (by simpa using h)]
    rfl

theorem RowsAt.ne {w : World} {b b' n : Nat} {t t' : TypeId} {R : Nat → List Int} {vs : List Value} (h : RowsAt w b n t R) (h' : Blk w b' vs t') (ht : t ≠ t') : b ≠ b' := by
  rintro rfl
  obtain ⟨us, h1, _⟩ := h
  unfold Blk at h1 h'
  rw [h1] at h'
  simp only [Option.some.injEq, Obj.cells.injEq] at h'
  exact ht h'.2.1
theorem RowsAt.grown {w w' : World} {b n : Nat} {t : TypeId} {R : Nat → List Int} {row : Option Nat} (h : RowsAt w b n t R) (hg : w.grownBy w' row) (hne : some b ≠ row) : RowsAt w' b n t R := by
  obtain ⟨vs, h1, h2⟩ := h
  exact ⟨vs, h1.grown hg hne, h2⟩

theorem grown_set {w w' : World} {row : Nat} (h : w.grownBy w' (some row)) {a : Addr} (ha : a.block = row) (u : Value) : w.grownBy (w'.setCell a u) (some row) :=
  ⟨h.os, h.tape, h.output, by have := h.size; simpa using this, fun k hk hne => (Below.heap_setCell w' a u k (fun e => hne (by rw [e, ha]))).trans (h.block k hk hne)⟩
theorem grown_low {w w' w'' : World} {row : Option Nat} (h : w.grownBy w' row) (hb : Below w'.heap.size w' w'') : w.grownBy w'' row :=
  ⟨hb.os.trans h.os, hb.tape.trans h.tape, hb.output.trans h.output, Nat.le_trans h.size hb.size, fun k hk hne => (hb.block k (Nat.lt_of_lt_of_le hk h.size)).trans (h.block k hk hne)⟩
theorem grown_new {w w' : World} {row : Option Nat} (h : w.grownBy w' row) (o : Obj) : w.grownBy (w'.alloc o) row := grown_low h (below_new w' o)

/-- The table of ways up to kk. -/
def WaysAt (bs : List UInt8) (g m n kk : Nat) (wr : World) (bw : Nat) (t : TypeId) : Prop :=
  ∃ wl, Blk wr bw wl t ∧ wl.length = n * 2 ∧ ∀ i, i < kk → wl[i * 2]? = some (.int .i64 ((way bs g m i).1 : Nat)) ∧ wl[i * 2 + 1]? = some (.int .i64 (way bs g m i).2)

theorem WaysAt.low {bs : List UInt8} {g m n kk bw : Nat} {wr wr' : World} {t : TypeId} (h : WaysAt bs g m n kk wr bw t) (hb : Below wr.heap.size wr wr') : WaysAt bs g m n kk wr' bw t := by
  obtain ⟨wl, h1, h2⟩ := h
  exact ⟨wl, h1.below hb h1.lt, h2⟩
theorem WaysAt.get {bs : List UInt8} {g m n kk bw : Nat} {wr : World} {t : TypeId} (h : WaysAt bs g m n kk wr bw t) {i : Nat} (hi : i < kk) :
    wr.cell? ⟨bw, i * 2, none⟩ = some (.int .i64 ((way bs g m i).1 : Nat)) ∧ wr.cell? ⟨bw, i * 2 + 1, none⟩ = some (.int .i64 (way bs g m i).2) := by
  obtain ⟨wl, h1, _, h3⟩ := h
  exact ⟨h1.cell (h3 i hi).1, h1.cell (h3 i hi).2⟩
theorem WaysAt.free {bs : List UInt8} {g m n kk bw : Nat} {wr : World} {t : TypeId} (h : WaysAt bs g m n kk wr bw t) (hk : kk < n) :
    (∃ u, wr.cell? ⟨bw, kk * 2, none⟩ = some u) ∧ (∃ u, wr.cell? ⟨bw, kk * 2 + 1, none⟩ = some u) ∧ ∀ j, wr.frozen? ⟨bw, j, none⟩ = false := by
  obtain ⟨wl, h1, h2, h3⟩ := h
  exact ⟨⟨wl[kk * 2]'(by omega), h1.cell (by rw [List.getElem?_eq_getElem])⟩, ⟨wl[kk * 2 + 1]'(by omega), h1.cell (by rw [List.getElem?_eq_getElem])⟩, fun j => h1.frozen j⟩
theorem WaysAt.next {bs : List UInt8} {g m n kk bw : Nat} {wr : World} {t : TypeId} (h : WaysAt bs g m n kk wr bw t) (hk : kk < n) {u v : Value} (hu : u = .int .i64 ((way bs g m kk).1 : Nat)) (hv : v = .int .i64 (way bs g m kk).2) :
    WaysAt bs g m n (kk + 1) ((wr.setCell ⟨bw, kk * 2, none⟩ u).setCell ⟨bw, kk * 2 + 1, none⟩ v) bw t := by
  obtain ⟨wl, h1, h2, h3⟩ := h
  refine ⟨_, (h1.set _ _).set _ _, by simp [h2], fun i hi => ?_⟩
  by_cases e : i = kk
  · subst e
    rw [List.getElem?_set_ne (by omega), List.getElem?_set_self (by omega), List.getElem?_set_self (by simp; omega), hu, hv]
    exact ⟨rfl, rfl⟩
  · rw [List.getElem?_set_ne (by omega), List.getElem?_set_ne (by omega), List.getElem?_set_ne (by omega), List.getElem?_set_ne (by omega)]
    exact h3 i (by omega)

/-- Three cells of the call's own, each a block: what lies there. -/
structure Fr (w wr : World) (t0 t1 t2 : TypeId) (lv v u : Value) : Prop where
  b0 : Blk wr w.heap.size [lv] t0
  b1 : Blk wr (w.heap.size + 1) [v] t1
  b2 : Blk wr (w.heap.size + 1 + 1) [u] t2
  below : Below w.heap.size w wr
  size : w.heap.size + 3 ≤ wr.heap.size

section
variable {w wr : World} {t0 t1 t2 : TypeId} {lv v u : Value}
theorem Fr.start (w : World) (t0 t1 t2 : TypeId) (lv v u : Value) : Fr w (((w.alloc (.cells #[lv] t0)).alloc (.cells #[v] t1)).alloc (.cells #[u] t2)) t0 t1 t2 lv v u := by
  have s1 : (w.alloc (.cells #[lv] t0)).heap.size = w.heap.size + 1 := by simp
  have s2 : ((w.alloc (.cells #[lv] t0)).alloc (.cells #[v] t1)).heap.size = w.heap.size + 1 + 1 := by simp
  refine ⟨((Blk.new w [lv] t0).alloc _).alloc _, ?_, ?_, ((below_new w _).alloc (by omega) _).alloc (by omega) _, by simp⟩
  · have := (Blk.new (w.alloc (.cells #[lv] t0)) [v] t1).alloc (.cells #[u] t2)
    rw [s1] at this
    exact this
  · have := Blk.new ((w.alloc (.cells #[lv] t0)).alloc (.cells #[v] t1)) [u] t2
    rw [s2] at this
    exact this
theorem Fr.alloc (h : Fr w wr t0 t1 t2 lv v u) (o : Obj) : Fr w (wr.alloc o) t0 t1 t2 lv v u :=
  ⟨h.b0.alloc o, h.b1.alloc o, h.b2.alloc o, h.below.alloc (by have := h.size; omega) o, by have := h.size; simp; omega⟩
theorem Fr.low {wr' : World} (h : Fr w wr t0 t1 t2 lv v u) (hb : Below wr.heap.size wr wr') : Fr w wr' t0 t1 t2 lv v u :=
  ⟨h.b0.below hb h.b0.lt, h.b1.below hb h.b1.lt, h.b2.below hb h.b2.lt, h.below.trans (hb.mono (by have := h.size; omega)), Nat.le_trans h.size hb.size⟩
theorem Fr.grown {wr' : World} {row : Option Nat} (h : Fr w wr t0 t1 t2 lv v u) (hg : wr.grownBy wr' row) (hr : ∀ k, row = some k → w.heap.size + 3 ≤ k) : Fr w wr' t0 t1 t2 lv v u :=
  ⟨h.b0.grown hg (fun e => by have := hr _ e.symm; omega), h.b1.grown hg (fun e => by have := hr _ e.symm; omega), h.b2.grown hg (fun e => by have := hr _ e.symm; omega),
    h.below.grown hg (by have := h.size; omega) (fun k hk => by have := hr k hk; omega), Nat.le_trans h.size hg.size⟩
theorem Fr.put1 (h : Fr w wr t0 t1 t2 lv v u) (v' : Value) : Fr w (wr.setCell ⟨w.heap.size + 1, 0, none⟩ v') t0 t1 t2 lv v' u := by
  refine ⟨h.b0.other v' (by simp), by have := h.b1.set 0 v'; simpa using this, h.b2.other v' (by simp), h.below.setCell (by dsimp only; omega) _, by simpa using h.size⟩
theorem Fr.put2 (h : Fr w wr t0 t1 t2 lv v u) (u' : Value) : Fr w (wr.setCell ⟨w.heap.size + 1 + 1, 0, none⟩ u') t0 t1 t2 lv v u' := by
  refine ⟨h.b0.other u' (by dsimp only; omega), h.b1.other u' (by dsimp only; omega), by have := h.b2.set 0 u'; simpa using this, h.below.setCell (by dsimp only; omega) _, by simpa using h.size⟩
end
end Go.Port
namespace Go.Proofs.Ytadnhjloeaddnaa
open Go.RowKit Go.Port

theorem Try.info_way : (Try.prog.info? 68).map (fun i => (i.zero, i.size, i.bytes)) = some (some (.agg #[.int .i64 0, .int .i64 0]), 2, 16) := by kernel_rfl

set_option maxRecDepth 100000 in
set_option maxHeartbeats 4000000 in
theorem cut_any (a : Option Addr) (c g m : Nat) (most : Int) (bs : List UInt8) (w : World) (hNb : bs.length ≤ 200000) (hnb : nPl bs.length g ≤ 9001) (hm : (m : Int) = heldI most) (hg : (g : Int) = min 1024 (heldI most)) (hNc : bs.length ≤ c) (hcm : c ≤ maxLen)
    (hc : ∀ j u, (bs.map bv)[j]? = some u → ∃ b off, a = some ⟨b, off, none⟩ ∧ b < w.heap.size ∧ w.cell? ⟨b, off + j, none⟩ = some u) :
    Calls Try.prog 30 #[.agg #[.slice a bs.length c], .int .i64 most] w fun e w' => ∃ bp cp bw, e = .returned (.tuple #[.slice (some ⟨bp, 0, none⟩) (nPl bs.length g) cp, .slice (some ⟨bw, 0, none⟩) (nPl bs.length g) (nPl bs.length g)]) ∧
      (∀ k, k < nPl bs.length g → w'.cell? ⟨bp, 0 + k, none⟩ = some (.int .i64 (place bs.length g k : Nat))) ∧
      (∀ k, k < nPl bs.length g → w'.cell? ⟨bw, k * 2, none⟩ = some (.int .i64 ((way bs g m k).1 : Nat)) ∧ w'.cell? ⟨bw, k * 2 + 1, none⟩ = some (.int .i64 (way bs g m k).2)) ∧ Below w.heap.size w w' := by
  have hh := heldI_bounds most
  have HH := hid (held_any most)
  generalize heldI most = h at *
  have hg0 : 0 < g := by omega
  have hg1 : g ≤ 1024 := by omega
  have hgm : g ≤ m := by omega
  have hn1 : 1 ≤ nPl bs.length g := Nat.succ_pos _
  have HPL := hid (fun k => (show k * g < bs.length ↔ k + 1 < nPl bs.length g from ⟨lt_nPl _ _ _ hg0, place_lt _ _ _ hg0⟩))
  have HPE := hid (fun k (hk : k + 1 < nPl bs.length g) => place_of_lt bs.length g k hg0 hk)
  have HPX := hid (place_last bs.length g hg0)
  have HPW := hid (PL_pairwise bs g hg0)
  generalize hn : nPl bs.length g = n at *
  have HFr := hid (Fr.start w 65 29 61 (.slice a bs.length c) (.slice none 0 0) (.slice none 0 0))
  have HC := hid hc
  clear hc
  obtain ⟨i0, hi, hz0, hz1, hz2⟩ := info_parts Try.info_int
  unfold maxLen at hcm
  go_enter Try.func30, Try.ntmps30
  go_wp2_with (go_at_call 32; refine (HH.out _).mono ?_; rintro e w' ⟨rfl, rfl⟩)
  go_loopw [7] (fun x wr => ∃ (k : Nat) (y : Int) (v : Value), k + 1 ≤ n ∧ x = .int .i64 y ∧ Hid (y = ((k * g : Nat) : Int)) ∧ 0 ≤ y ∧ y ≤ 210000 ∧ Fr w wr 65 29 61 (.slice a bs.length c) v (.slice none 0 0) ∧ wr.ownsRow (w.heap.size + 3) 3 1 v k ((PL bs g k).map iv)) (fun x _ => (250000 - intOf x).toNat)
  case atStart => exact ⟨0, 0, _, hn1, rfl, hid (by simp), by omega, by omega, HFr.out, World.ownsRow_nil _ _ _ _⟩
  case round =>
    obtain ⟨k, y, v, hk, rfl, HY, hy0, hy1, hF, hown⟩ := hrel
    have hpl := HPL.out k
    have hyg := HY.out
    have hc0 := hF.b0.cell (k := 0) rfl
    have hc1 := hF.b1.cell (k := 0) rfl
    have hz1 := hF.b1.frozen 0
    have hsz := hF.size
    by_cases hlt : y < bs.length
    · have hlt2 : k + 1 < n := hpl.1 (by omega)
      have HS := hid (PL_succ bs g k)
      have HE := hid (show ((place bs.length g k : Nat) : Int) = y from by rw [HPE.out k hlt2, hyg])
      have HY2 := hid (show y + min 1024 h = (((k + 1) * g : Nat) : Int) from by rw [hyg, ← hg, Nat.succ_mul]; omega)
      have HK := hid hlt2
      have hk9 : k < 9100 := by omega
      clear hpl hyg hlt2
      go_wp2_with (at_builtin; refine Hid.out ?_)
      refine hid ?_
      refine wpList_append1 rfl _ _ 29 rfl 3 _ 1 8 Try.underlying29 Try.info_int rfl (by decide) (by decide) _ (w.heap.size + 3) _ _ _ _ rfl ?hu rfl rfl (by exact hown) ?hn ?hb ?hk
      case hu => simp [Value.oneCell']
      case hn => omega
      case hb => exact hsz
      case hk =>
        intro v' w1 hown' hg1
        obtain ⟨va, vc, rfl⟩ := own_slice hown'
        have hF1 := hF.grown hg1 (fun q hq => (hown.lt q hq).1)
        have hc1' := hF1.b1.cell (k := 0) rfl
        have hz1' := hF1.b1.frozen 0
        go_wp2
        go_roundw
        case rel => exact ⟨k + 1, y + min 1024 h, _, HK.out, rfl, hid HY2.out, by omega, by omega, hF1.put1 _, by rw [HS.out, List.map_append]; rw [← HE.out] at hown'; exact own_other hown' _ (by dsimp only; omega)⟩
        case measure => simp [intOf]; omega
    · have hlt2 : ¬ k + 1 < n := fun hh => hlt (by have := hpl.2 hh; omega)
      obtain rfl : n = k + 1 := by omega
      have HS := hid (PL_succ bs g k)
      have HX := hid (show place bs.length g k = bs.length from by have := HPX.out; rwa [Nat.add_sub_cancel] at this)
      have hk9 : k < 9100 := by omega
      clear hpl hyg hlt2
      go_wp2_with (at_builtin; refine Hid.out ?_)
      refine hid ?_
      refine wpList_append1 rfl _ _ 29 rfl 3 _ 1 8 Try.underlying29 Try.info_int rfl (by decide) (by decide) _ (w.heap.size + 3) _ _ _ _ rfl ?hu rfl rfl (by exact hown) ?hn ?hb ?hk
      case hu => simp [Value.oneCell']
      case hn => omega
      case hb => exact hsz
      case hk =>
        intro v' w1 hown' hg1
        have hF1 := hF.grown hg1 (fun q hq => (hown.lt q hq).1)
        obtain ⟨P, cp, cs, rfl, hPb, hcp, hcp2, hBP, hcs⟩ := own_blk hown' (Nat.succ_pos k)
        have HCS := hid (show cs.take (k + 1) = (PL bs g (k + 1)).map iv from by rw [HS.out, List.map_append, HX.out]; simpa [iv] using hcs)
        have hc1' := hF1.b1.cell (k := 0) rfl
        have hz1' := hF1.b1.frozen 0
        go_wp2_with (at_make; refine Hid.out ?_)
        have hF2 := hF1.put1 (.slice (some ⟨P, 0, none⟩) (k + 1) cp)
        have hBP2 := hBP.other (a := ⟨w.heap.size + 1, 0, none⟩) (.slice (some ⟨P, 0, none⟩) (k + 1) cp) (by dsimp only; omega)
        clear hc1' hz1' hF1 hBP hown' hg1 hF hown hc0 hc1 hz1 hsz
        generalize w1.setCell ⟨w.heap.size + 1, 0, none⟩ (.slice (some ⟨P, 0, none⟩) (k + 1) cp) = w2 at *
        have hmk0 := run_make_cells 61 68 _ 2 16 Try.underlying61 Try.info_way (k + 1) (by omega) (by omega) w2
        have hF3 := hF2.alloc (.cells (madeCells (Value.agg #[.int .i64 0, .int .i64 0]).cells ((k + 1) * 2)) 68)
        have hBP3 := hBP2.alloc (.cells (madeCells (Value.agg #[.int .i64 0, .int .i64 0]).cells ((k + 1) * 2)) 68)
        have hBW3 : Blk (w2.alloc (.cells (madeCells (Value.agg #[.int .i64 0, .int .i64 0]).cells ((k + 1) * 2)) 68)) w2.heap.size (List.replicate ((k + 1) * 2) (.int .i64 0)) 68 := by
          have := Blk.new w2 (madeCells (Value.agg #[.int .i64 0, .int .i64 0]).cells ((k + 1) * 2)).toList 68
          rw [made_two] at this
          simpa [← made_two] using this
        have hsz2 := hF2.size
        have hPbw := hBP2.lt
        clear hF2 hBP2
        generalize hw3 : w2.alloc (.cells (madeCells (Value.agg #[.int .i64 0, .int .i64 0]).cells ((k + 1) * 2)) 68) = w3 at *
        clear hw3
        generalize w2.heap.size = bw at *
        have hmk : ((k + 1 : Nat) : Int) = (k : Int) + 1 := by omega
        rw [hmk] at hmk0
        have hc0 := hF3.b0.cell (k := 0) rfl
        have hc1 := hF3.b1.cell (k := 0) rfl
        have hc2 := hF3.b2.cell (k := 0) rfl
        have hz2 := hF3.b2.frozen 0
        refine hid ?_
        go_wp2_with (go_at_call 45; refine Hid.out ?_)
        have hF4 := hF3.put2 (.slice (some ⟨bw, 0, none⟩) (k + 1) (k + 1))
        have hBP4 := hBP3.other (a := ⟨w.heap.size + 1 + 1, 0, none⟩) (.slice (some ⟨bw, 0, none⟩) (k + 1) (k + 1)) (by dsimp only; omega)
        have hBW4 := hBW3.other (a := ⟨w.heap.size + 1 + 1, 0, none⟩) (.slice (some ⟨bw, 0, none⟩) (k + 1) (k + 1)) (by dsimp only; omega)
        clear hc0 hc1 hc2 hz2 hmk0 hmk hF3 hBP3 hBW3
        generalize w3.setCell ⟨w.heap.size + 1 + 1, 0, none⟩ (.slice (some ⟨bw, 0, none⟩) (k + 1) (k + 1)) = w4 at *
        have hPz : ∀ (W : World), Blk W P cs 3 → ∀ j, j < k + 1 → W.cell? ⟨P, 0 + j, none⟩ = some (.int .i64 ((place bs.length g j : Nat) : Int)) := fun W hB j hj => by
          rw [Nat.zero_add]
          refine hB.cell ?_
          have h1 := PL_get bs g (k + 1) j hj
          have h2 : (cs.take (k + 1))[j]? = some (.int .i64 ((place bs.length g j : Nat) : Int)) := by rw [HCS.out, List.getElem?_map, h1]; rfl
          rwa [List.getElem?_take_of_lt hj] at h2
        have HR := hid (rows_any a c P cp g (k + 1) bs.length bs w4 rfl hNb (by omega) hg0 hn (fun j u hu => by
          obtain ⟨b, off, h1, h2, h3⟩ := HC.out j u hu
          exact ⟨b, off, h1, Nat.lt_of_lt_of_le h2 hF4.below.size, (hF4.below.cell (p := ⟨b, off + j, none⟩) h2).trans h3⟩) (hPz w4 hBP4) hcp hcp2 hNc (by unfold maxLen; omega))
        refine hid ?_
        refine HR.out.mono ?_
        rintro e w5 ⟨br, rfl, hR5, hb5⟩
        have hF5 := hF4.low hb5
        have hBP5 := hBP4.below hb5 hBP4.lt
        have hBW5 := hBW4.below hb5 hBW4.lt
        have hne5 := hR5.ne hBW5 (by decide)
        have hF6 := hF5.alloc (.cells #[.slice (some ⟨br, 0, none⟩) (k + 1) (k + 1)] 79)
        have hBP6 := hBP5.alloc (.cells #[.slice (some ⟨br, 0, none⟩) (k + 1) (k + 1)] 79)
        have hBW6 := hBW5.alloc (.cells #[.slice (some ⟨br, 0, none⟩) (k + 1) (k + 1)] 79)
        have hR6 := hR5.below (below_new w5 (.cells #[.slice (some ⟨br, 0, none⟩) (k + 1) (k + 1)] 79)) hR5.lt
        have hBT6 := Blk.new w5 [Value.slice (some ⟨br, 0, none⟩) (k + 1) (k + 1)] 79
        have hbt := hBW5.lt
        clear hF4 hBP4 hBW4 hF5 hBP5 hBW5 hR5 hb5 HR
        have hs6 : (w5.alloc (.cells #[.slice (some ⟨br, 0, none⟩) (k + 1) (k + 1)] 79)).heap.size = w5.heap.size + 1 := by simp
        have hbrl : br < w5.heap.size + 1 := by have := hR6.lt; omega
        have hW6 : WaysAt bs g m (k + 1) 1 (w5.alloc (.cells #[.slice (some ⟨br, 0, none⟩) (k + 1) (k + 1)] 79)) bw 68 := by
          refine ⟨_, hBW6, by simp, fun i hi => ?_⟩
          obtain rfl : i = 0 := by omega
          rw [way_zero, List.getElem?_replicate, if_pos (by omega), List.getElem?_replicate, if_pos (by omega)]
          exact ⟨rfl, rfl⟩
        have HK1 := hid (Blk.new (w5.alloc (.cells #[.slice (some ⟨br, 0, none⟩) (k + 1) (k + 1)] 79)) [Value.int .i64 1] 3)
        have HWS := hid (show WaysAt bs g m (k + 1) 1 ((w5.alloc (.cells #[.slice (some ⟨br, 0, none⟩) (k + 1) (k + 1)] 79)).alloc (.cells #[.int .i64 1] 3)) bw 68 from by
          obtain ⟨wl, h1, h2⟩ := hW6
          exact ⟨wl, h1.alloc _, h2⟩)
        rw [hs6] at HK1
        have HG0 := hid (World.grownBy_alloc (w5.alloc (.cells #[.slice (some ⟨br, 0, none⟩) (k + 1) (k + 1)] 79)) (.cells #[.int .i64 1] 3) (some bw))
        clear hBW6 hW6
        dsimp only
        go_wp2
        generalize w5.alloc (.cells #[.slice (some ⟨br, 0, none⟩) (k + 1) (k + 1)] 79) = w6 at *
        generalize w5.heap.size = bt at *
        go_loopw [9, 10] (fun vf vp wr => ∃ (kk f bk : Nat), vf = .int .i64 f ∧ vp = .pointer (some ⟨bk, 0, none⟩) ∧ 1 ≤ kk ∧ kk ≤ k + 1 ∧ f < kk ∧ Hid (∀ i, i < f → m < place bs.length g kk - place bs.length g i) ∧ bt + 1 ≤ bk ∧ w6.grownBy wr (some bw) ∧ Blk wr bk [.int .i64 kk] 3 ∧ WaysAt bs g m (k + 1) kk wr bw 68) (fun _ vp wr => k + 1 - (match vp with | .pointer (some a) => (match wr.cell? a with | some u => (intOf u).toNat | none => 0) | _ => 0))
        case atStart => exact ⟨1, 0, bt + 1, rfl, rfl, Nat.le_refl _, by omega, by omega, hid (fun i hi => by omega), Nat.le_refl _, HG0.out, HK1.out, HWS.out⟩
        case round =>
          obtain ⟨kk, f, bk, rfl, rfl, hk1, hkn, hfk, HFI, hbk, hG, hBK, hWA⟩ := hrel
          have hbwne : ∀ b, b < bw → some b ≠ some bw := fun b hb e => by
            simp only [Option.some.injEq] at e
            omega
          have hF := hF6.grown hG (fun q hq => by
            simp only [Option.some.injEq] at hq
            omega)
          have hBP := hBP6.grown hG (hbwne P hPbw)
          have hR := hR6.grown hG (by
            intro e
            simp only [Option.some.injEq] at e
            exact hne5 e)
          have hBT := hBT6.grown hG (by
            intro e
            simp only [Option.some.injEq] at e
            omega)
          have hck := hBK.cell (k := 0) rfl
          have hc1 := hF.b1.cell (k := 0) rfl
          have hc2 := hF.b2.cell (k := 0) rfl
          by_cases hlt : kk < k + 1
          · have hz := hPz wr hBP
            have hstep : place bs.length g kk - place bs.length g (kk - 1) ≤ m := by
              have := place_step bs.length g (kk - 1)
              rw [Nat.sub_add_cancel hk1] at this
              omega
            have hzk := hz kk hlt
            rw [Nat.zero_add] at hzk
            have HZ := hid hz
            have HBK := hid hBK
            have HWA := hid hWA
            have HG := hid hG
            have HFF := hid hF
            have HBP := hid hBP
            have HRR := hid hR
            have HBT := hid hBT
            have tk : (kk : Int) < (k : Int) + 1 := by omega
            clear hz hBK hWA hG hF hBP hR hBT
            go_wp2
            go_loopw [9] (fun vf wq => ∃ f q : Nat, vf = .int .i64 f ∧ f < kk ∧ Hid (∀ i, i < f → m < place bs.length g kk - place bs.length g i) ∧ wq = wr.drewN q) (fun vf _ => kk - (intOf vf).toNat)
            case atStart => exact ⟨f, 0, rfl, hfk, HFI, rfl⟩
            case round =>
              obtain ⟨f, q, rfl, hfk, HFI, rfl⟩ := hrel
              have hzf := HZ.out f (by omega)
              rw [Nat.zero_add] at hzf
              have hmono := place_mono bs.length g (Nat.le_of_lt hfk)
              have hple := place_le bs.length g kk
              have tf : (f : Int) < (k : Int) + 1 := by omega
              by_cases hx : m < place bs.length g kk - place bs.length g f
              · have hf1 : f + 1 < kk := by
                  rcases Nat.lt_or_ge (f + 1) kk with h | h
                  · exact h
                  · exfalso
                    have : f = kk - 1 := by omega
                    subst this
                    omega
                have t1 : h < ((place bs.length g kk : Nat) : Int) - ((place bs.length g f : Nat) : Int) := by omega
                have HJ := hid hf1
                clear hx hf1
                go_wp2
                go_quiet (fail)
                go_wp2
                go_roundw
                case rel =>
                  refine ⟨f + 1, q + nq, by go_num, HJ.out, hid (fun i hi => ?_), rfl⟩
                  rcases Nat.lt_or_ge i f with h | h
                  · exact HFI.out i h
                  · obtain rfl : i = f := by omega
                    omega
                case measure =>
                  have := HJ.out
                  simp [intOf]; omega
              · have t1 : ¬ h < ((place bs.length g kk : Nat) : Int) - ((place bs.length g f : Nat) : Int) := by omega
                have HX := hid hx
                clear hx
                go_wp2
                go_quiet (fail)
                go_wp2_with (go_at_call 46; refine Hid.out ?_)
                have hb0 : Below wr.heap.size wr (wr.drewN (q + nq)) := below_drewN (Below.refl _ _) _
                have hF2 := HFF.out.low hb0
                have hBP2 := HBP.out.below hb0 HBP.out.lt
                have hR2 := HRR.out.below hb0 HRR.out.lt
                have hBT2 := HBT.out.below hb0 HBT.out.lt
                have hBK2 := HBK.out.below hb0 HBK.out.lt
                have hWA2 := HWA.out.low hb0
                have hG2 := grown_low HG.out hb0
                clear hb0
                generalize wr.drewN (q + nq) = w7 at *
                have HV := hid (way_range bs g m (kk - 1) f (by omega) (by rw [Nat.sub_add_cancel hk1]; exact HFI.out) (by rw [Nat.sub_add_cancel hk1]; have := HX.out; omega))
                rw [Nat.sub_add_cancel hk1] at HV
                have HLst := least_any (some ⟨P, f, none⟩) (kk - f) (kk - f) ((List.range' f (kk - f)).map fun j => ((place bs.length g j : Nat) : Int)) ((List.range' f (kk - f)).map fun i => (way bs g m i).2 + partS (segK bs g i kk))
                  ⟨w.heap.size + 1, 0, none⟩ ⟨w.heap.size + 1 + 1, 0, none⟩ ⟨bt, 0, none⟩ ⟨bk, 0, none⟩ w7 (by simp) (by simp) (by omega)
                  (fun j u hu => by
                    have hj : j < kk - f := by
                      have := (List.getElem?_eq_some_iff.1 hu).1
                      simpa using this
                    have h1 := hPz w7 hBP2 (f + j) (by omega)
                    rw [Nat.zero_add] at h1
                    refine ⟨P, f, rfl, hBP2.lt, ?_⟩
                    rw [h1, ← hu, List.getElem?_map, List.getElem?_map, List.getElem?_range' hj]
                    simp [iv])
                  (fun j x vv hx hv W hbW => by
                    have hj : j < kk - f := by
                      have := (List.getElem?_eq_some_iff.1 hx).1
                      simpa using this
                    rw [List.getElem?_map, List.getElem?_range' hj] at hx hv
                    simp only [Option.map_some, Option.some.injEq, Nat.one_mul] at hx hv
                    subst hx hv
                    have hij : f + j < kk := by omega
                    have hFW := hF2.low hbW
                    have hBPW := hBP2.below hbW hBP2.lt
                    have hRW := hR2.below hbW hR2.lt
                    have hBTW := hBT2.below hbW hBT2.lt
                    have hBKW := hBK2.below hbW hBK2.lt
                    have hWAW := (hWA2.low hbW).get hij
                    have hpi := place_mono bs.length g (Nat.le_of_lt hij)
                    have hps := place_strict bs.length g hg0 hij (by omega)
                    have hpl := place_le bs.length g kk
                    have hw0 := way_nonneg bs g m hgm (f + j)
                    have hw1 := way_small bs g m hgm (f + j)
                    have hzip := seg_zip bs (place bs.length g (f + j)) (place bs.length g kk) hpi (by omega)
                    have hres := cut1_any ⟨w.heap.size + 1, 0, none⟩ ⟨w.heap.size + 1 + 1, 0, none⟩ ⟨bt, 0, none⟩ ⟨bk, 0, none⟩ P cp bw (k + 1) br (k + 1) (k + 1) (f + j) kk (PL bs g (k + 1)) ((place bs.length g (f + j) : Nat) : Int) (way bs g m (f + j)).2
                      (histS (bs.take (place bs.length g kk))) (histS (bs.take (place bs.length g (f + j)))) W (PL_length _ _ _) (by omega) HPW.out (PL_get _ _ _ _ (by omega)) hlt
                      (hFW.b1.cell (k := 0) rfl) (hFW.b2.cell (k := 0) rfl) (hBTW.cell (k := 0) rfl) (hBKW.cell (k := 0) rfl)
                      (fun j' hj' => by rw [hPz W hBPW j' hj', List.getD_eq_getElem?_getD, PL_get _ _ _ _ hj']; rfl)
                      hWAW.2 ⟨hw0, by omega⟩ (hRW.range (i := kk) hlt) (hRW.range (i := f + j) (by omega)) (histS_length _) (histS_length _) (histS_cnt _) (histS_cnt _) (by rw [hzip]; exact histS_cnt _)
                    rw [hzip, seg_part bs _ _ hps hpl] at hres
                    exact hres)
                have hls := HV.out.2
                have HV1 := hid HV.out.1
                generalize leastS ((List.range' f (kk - f)).map fun i => (way bs g m i).2 + partS (segK bs g i kk)) = L at *
                obtain ⟨L1, L2⟩ := L
                dsimp only at hls
                refine hid ?_
                refine HLst.mono ?_
                rintro e w8 ⟨rfl, hb8⟩
                have hF8 := hF2.low hb8
                have hBK8 := hBK2.below hb8 hBK2.lt
                have hWA8 := hWA2.low hb8
                have hG8 := grown_low hG2 hb8
                have hck8 := hBK8.cell (k := 0) rfl
                have hc18 := hF8.b1.cell (k := 0) rfl
                have hc28 := hF8.b2.cell (k := 0) rfl
                obtain ⟨⟨o1, ho1⟩, ⟨o2, ho2⟩, hfz⟩ := hWA8.free hlt
                have hf1 := hfz (kk * 2)
                have hf2 := hfz (kk * 2 + 1)
                have hbk8 := hBK8.lt
                have HWN := hid (hWA8.next hlt (u := .int .i64 ((f : Int) + (L1 : Int))) (v := .int .i64 L2) (by rw [HV1.out]; simp) (by rw [HV1.out]))
                have HGN := hid (grown_set (grown_set hG8 (a := ⟨bw, kk * 2, none⟩) rfl (.int .i64 ((f : Int) + (L1 : Int)))) (a := ⟨bw, kk * 2 + 1, none⟩) rfl (.int .i64 L2))
                have hbkw : bk ≠ bw := by omega
                have HBKN := hid ((hBK8.other (a := ⟨bw, kk * 2, none⟩) (.int .i64 ((f : Int) + (L1 : Int))) (fun e => hbkw e.symm)).other (a := ⟨bw, kk * 2 + 1, none⟩) (.int .i64 L2) (fun e => hbkw e.symm))
                clear hF2 hBP2 hR2 hBT2 hBK2 hWA2 hG2 HLst HV hF8 hBK8 hWA8 hG8 hfz hb8
                have HJ := hid hlt
                dsimp only
                go_wp2
                go_roundw
                case rel =>
                  have hj := HJ.out
                  have hsn : ((w8.setCell ⟨bw, kk * 2, none⟩ (.int .i64 ((f : Int) + (L1 : Int)))).setCell ⟨bw, kk * 2 + 1, none⟩ (.int .i64 L2)).heap.size = w8.heap.size := by simp
                  have hbn := Blk.new ((w8.setCell ⟨bw, kk * 2, none⟩ (.int .i64 ((f : Int) + (L1 : Int)))).setCell ⟨bw, kk * 2 + 1, none⟩ (.int .i64 L2)) [Value.int .i64 ((kk : Int) + 1)] 3
                  rw [hsn] at hbn
                  refine ⟨kk + 1, f, w8.heap.size, rfl, rfl, by omega, hj, by omega, hid (fun i hi => ?_), by omega, grown_new HGN.out _, hbn, HWN.out.low (below_new _ _)⟩
                  have h1 := HFI.out i hi
                  have h2 := place_mono bs.length g (show kk ≤ kk + 1 by omega)
                  have h3 := place_mono bs.length g (show i ≤ kk by omega)
                  omega
                case measure =>
                  have hj := HJ.out
                  have hsn : ((w8.setCell ⟨bw, kk * 2, none⟩ (.int .i64 ((f : Int) + (L1 : Int)))).setCell ⟨bw, kk * 2 + 1, none⟩ (.int .i64 L2)).heap.size = w8.heap.size := by simp
                  have hbn := Blk.new ((w8.setCell ⟨bw, kk * 2, none⟩ (.int .i64 ((f : Int) + (L1 : Int)))).setCell ⟨bw, kk * 2 + 1, none⟩ (.int .i64 L2)) [Value.int .i64 ((kk : Int) + 1)] 3
                  rw [hsn] at hbn
                  have h1 := hbn.cell (k := 0) rfl
                  simp [h1, hck, intOf]
                  omega
          · obtain rfl : kk = k + 1 := by omega
            have hz1 := hF.b1.frozen 0
            have hz2 := hF.b2.frozen 0
            have HFF := hid hF
            have HBP := hid hBP
            have HWA := hid hWA
            clear hBK hR hBT hF hBP hWA hG
            go_wp2
            go_region
            go_wp2
            have hF9 := (HFF.out.put1 (.slice (some ⟨P, 0, none⟩) (k + 1) cp)).put2 (.slice (some ⟨bw, 0, none⟩) (k + 1) (k + 1))
            have hP9 := (HBP.out.other (a := ⟨w.heap.size + 1, 0, none⟩) (.slice (some ⟨P, 0, none⟩) (k + 1) cp) (by dsimp only; omega)).other (a := ⟨w.heap.size + 1 + 1, 0, none⟩) (.slice (some ⟨bw, 0, none⟩) (k + 1) (k + 1)) (by dsimp only; omega)
            have hW9 : WaysAt bs g m (k + 1) (k + 1) ((wr.setCell ⟨w.heap.size + 1, 0, none⟩ (.slice (some ⟨P, 0, none⟩) (k + 1) cp)).setCell ⟨w.heap.size + 1 + 1, 0, none⟩ (.slice (some ⟨bw, 0, none⟩) (k + 1) (k + 1))) bw 68 := by
              obtain ⟨wl, h1, h2⟩ := HWA.out
              exact ⟨wl, (h1.other (a := ⟨w.heap.size + 1, 0, none⟩) _ (by dsimp only; omega)).other (a := ⟨w.heap.size + 1 + 1, 0, none⟩) _ (by dsimp only; omega), h2⟩
            have hc91 := hF9.b1.cell (k := 0) rfl
            have hc92 := hF9.b2.cell (k := 0) rfl
            generalize (wr.setCell ⟨w.heap.size + 1, 0, none⟩ (.slice (some ⟨P, 0, none⟩) (k + 1) cp)).setCell ⟨w.heap.size + 1 + 1, 0, none⟩ (.slice (some ⟨bw, 0, none⟩) (k + 1) (k + 1)) = w9 at *
            refine bodyPost_ret (v := .tuple #[.slice (some ⟨P, 0, none⟩) (k + 1) cp, .slice (some ⟨bw, 0, none⟩) (k + 1) (k + 1)]) (by simp [results, Try.results30, go_sem, hc91, hc92]) rfl ?_
            refine ⟨P, cp, bw, rfl, hPz _ hP9, fun i hi => hW9.get hi, hF9.below.drew⟩
end Go.Proofs.Ytadnhjloeaddnaa
