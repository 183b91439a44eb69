/-
  bits.Len as a floor of the binary logarithm.
  The walks of layer 28, tenth part: a row of sequences is sorted by offset.
-/
import Derived.Test.YtiagbejfghincaaGreatX26
import Derived.Test.YtiagbejfghincaaGreatX03
import Derived.Test.YtiagbejfghincaaGreatShelf
import Derived.Test.YtiagbejfghincaaGreatX27
import Derived.Test.YtiagbejfghincaaGreatSorts
namespace Go.Port
open Go.RowKit
theorem bitLen_log (n : Nat) (h : n ≠ 0) (h1 : n < 2 ^ 64) : Lib.bitLen n = Nat.log2 n + 1 := by
  have := Lib.bitLen_shift (Nat.log2 n) n (log2_lo h) h1
  rw [this]
  have h2 := log2_hi n
  rw [Nat.pow_succ] at h2
  have h3 := log2_lo h
  have e : n / 2 ^ Nat.log2 n = 1 := by
    have hp := Nat.two_pow_pos (Nat.log2 n)
    rw [Nat.div_eq_iff hp]
    omega
  rw [e]
  rfl
end Go.Port
namespace Go.Proofs.YtiagbejfghincaaGreat
open Go.RowKit Go.Port
theorem len_log0 (n : Int) (w : World) (h0 : 0 ≤ n) (h1 : n ≤ 9223372036854775807) :
    Calls Tryz.prog 118 #[.int .u64 n] w fun e w' => e = .returned (.int .i64 (if n = 0 then 0 else (Nat.log2 n.toNat : Nat) + 1 : Int)) ∧ w = w' := by
  refine (Tryz.bits_Len n w (by omega) (by omega)).mono ?_
  rintro e w' ⟨he, hw⟩
  refine ⟨?_, hw.symm⟩
  rw [he]
  by_cases hn : n = 0
  · subst hn
    rfl
  · rw [if_neg hn, bitLen_log n.toNat (by omega) (by omega)]
    rfl
end Go.Proofs.YtiagbejfghincaaGreat
namespace Go.Port
open Go.RowKit Go.Shelf Go.Proofs
open Go.Sort hiding Below
/-- A sequence whose offset is no more than a thousand millions. -/
abbrev SqB := { s : Sq // 0 ≤ s.off ∧ s.off ≤ 1000000000 }
instance : Inhabited SqB := ⟨⟨Sq.zero, by decide⟩⟩
def encB (s : SqB) : List Value := sqc s.1
def cfB (x y : SqB) : Int := x.1.off - y.1.off
theorem ltB (x y : SqB) : ltOf cfB x y = decide (x.1.off < y.1.off) := by
  unfold ltOf cfB
  by_cases h : x.1.off < y.1.off
  · rw [decide_eq_true h, decide_eq_true (by omega)]
  · rw [decide_eq_false h, decide_eq_false (by omega)]
theorem swoB : SWO (ltOf cfB) where
  irrefl x := by rw [ltB]; simp
  trans x y z h1 h2 := by rw [ltB] at *; simp at *; omega
  ntrans x y z h1 h2 := by rw [ltB] at *; simp at *; omega
theorem pmap_val {p : Sq → Prop} (l : List Sq) (h : ∀ s ∈ l, p s) : (l.pmap Subtype.mk h).map Subtype.val = l := by
  induction l with
  | nil => rfl
  | cons x r ih => simp [ih]
theorem flatB (d : Array SqB) : (flatK encB 3 d).toList = (d.toList.map Subtype.val).flatMap sqc := by
  apply List.ext_getElem?
  intro t
  by_cases ht : t < d.size * 3
  · have h3 : t / 3 < d.size := by omega
    have h1 := get_flatK encB 3 d t ht
    have hx : (d.toList.map Subtype.val)[t / 3]? = some d[t / 3]!.1 := by
      rw [List.getElem?_map, Array.getElem?_toList, Array.getElem?_eq_getElem h3, getElem!_pos d (t / 3) h3]
      rfl
    have h2 := sqc_get hx (t % 3) (Nat.mod_lt _ (by omega))
    rw [Nat.div_add_mod' t 3] at h2
    rw [h2, Array.getElem?_toList, Array.getElem?_eq_getElem (by simpa using ht), ← getElem!_pos (flatK encB 3 d) t (by simpa using ht), h1]
    have hl : t % 3 < (encB d[t / 3]!).length := Nat.mod_lt _ (by decide)
    rw [getElem!_pos (encB d[t / 3]!) (t % 3) hl]
    exact (List.getElem?_eq_getElem hl).symm
  · rw [List.getElem?_eq_none (by simp; omega), List.getElem?_eq_none (by rw [sqc_length]; simp; omega)]
theorem putCells_take (F c : Array Value) (h : F.size ≤ c.size) : (putCells id 0 F c).toList.take F.size = F.toList := by
  apply List.ext_getElem?
  intro t
  rw [List.getElem?_take]
  by_cases ht : t < F.size
  · rw [if_pos ht]
    unfold putCells
    rw [Array.getElem?_toList, Array.getElem?_mapIdx, Array.getElem?_eq_getElem (by omega), Array.getElem?_toList, Array.getElem?_eq_getElem ht]
    simp only [Option.map_some]
    rw [if_pos ⟨Nat.zero_le _, by omega⟩, Nat.sub_zero, getElem!_pos F t ht]
    rfl
  · rw [if_neg ht, List.getElem?_eq_none (by simpa using ht)]
theorem holds_blk {w : World} {g : Nat} {cs : List Value} {e : TypeId} {d : Array SqB} (h : Blk w g cs e) (hcs : cs.take (d.size * 3) = (d.toList.map Subtype.val).flatMap sqc) : HoldsK encB 3 w g 0 d := by
  intro j hj
  have hj' : j < d.size * 3 := by simpa using hj
  refine ⟨?_, h.frozen _⟩
  rw [Nat.zero_add]
  refine h.cell ?_
  have : (cs.take (d.size * 3))[j]? = (flatK encB 3 d).toList[j]? := by rw [hcs, flatB]
  rw [List.getElem?_take, if_pos hj', Array.getElem?_toList (xs := flatK encB 3 d), Array.getElem?_eq_getElem hj] at this
  rw [this, getElem!_pos (flatK encB 3 d) j hj]
  rfl
/-- The sort's world holds the row anew; what lay below the row's base stays. -/
theorem own_sortWorld {w : World} {B g n cap m : Nat} {cs : List Value} {e : TypeId} {d : Array SqB} {os : Array Obj} (h : Blk w g cs e) (hB : B ≤ g) (hn : n ≤ cap) (hm : cap ≤ maxLen) (hl : cs.length = cap * 3) (hd : d.size = n) :
    (sortWorldK encB 3 w g 0 m d os).ownsRow B e 3 (.slice (some ⟨g, 0, none⟩) n cap) n ((d.toList.map Subtype.val).flatMap sqc) ∧ Below B w (sortWorldK encB 3 w g 0 m d os) := by
  subst hd
  have hlt : g < w.heap.size := h.lt
  have hF : (flatK encB 3 d).size = d.size * 3 := by simp
  have hle : (flatK encB 3 d).size ≤ cs.toArray.size := by
    have e1 : cs.toArray.size = cap * 3 := by simp [hl]
    rw [hF, e1]
    omega
  refine ⟨⟨by rw [sqc_length]; simp, .inr ⟨g, cap, putCells id 0 (flatK encB 3 d) cs.toArray, rfl, hB, ?_, hn, hm, by unfold putCells; simp [hl], ?_⟩⟩, ?_⟩
  · unfold sortWorldK grow putRowK putRow mapBlock
    show ((w.heap.modify g _) ++ os)[g]? = _
    rw [Array.getElem?_append_left (by simpa using hlt), Array.getElem?_modify, if_pos rfl]
    have h' : w.heap[g]? = some (.cells cs.toArray e (0, 0)) := h
    rw [h']
    rfl
  · rw [← hF, putCells_take _ _ hle, flatB]
  · refine ⟨rfl, rfl, rfl, ?_, fun k hk => ?_⟩
    · unfold sortWorldK
      rw [size_grow, size_putRowK]
      exact Nat.le_add_right _ _
    · unfold sortWorldK grow putRowK putRow mapBlock
      show ((w.heap.modify g _) ++ os)[k]? = _
      rw [Array.getElem?_append_left (by simp; omega), Array.getElem?_modify, if_neg (by omega)]
theorem sorted_byOff {n : Nat} {d' : Array SqB} (hs : SortedIn (ltOf cfB) 0 n d') (hd : d'.size = n) : ByOff (d'.toList.map Subtype.val) := by
  unfold ByOff
  rw [List.pairwise_iff_getElem]
  intro i j hi hj hij
  simp only [List.length_map, Array.length_toList] at hi hj
  have := hs i j (Nat.zero_le _) hij (by omega)
  rw [ltB, getElem!_pos d' i hi, getElem!_pos d' j hj] at this
  simp only [decide_eq_false_iff_not] at this
  simp only [List.getElem_map, Array.getElem_toList]
  omega
theorem perm_of_in {n : Nat} {d d' : Array SqB} (h : PermIn 0 n d d') (hd : d.size = n) : (d'.toList.map Subtype.val).Perm (d.toList.map Subtype.val) := by
  obtain ⟨h1, _, h3⟩ := h
  rw [show d'.extract 0 n = d' from by rw [← hd, ← h1, Array.extract_size], show d.extract 0 n = d from by rw [← hd, Array.extract_size]] at h3
  exact h3.map _
end Go.Port
namespace Go.Proofs.YtiagbejfghincaaGreat
open Go.RowKit Go.Port Go.Shelf
open Go.Sort hiding Below
theorem inc1_any (x y : SqB) (w : World) : Calls Tryz.prog 130 #[.agg (encB x).toArray, .agg (encB y).toArray] w fun e w' => e = .returned (.int .i64 (cfB x y)) ∧ ∃ q os', w' = grow (w.drewN q) os' := by
  obtain ⟨⟨xl, xn, xo⟩, x1, x2⟩ := x
  obtain ⟨⟨yl, yn, yo⟩, y1, y2⟩ := y
  dsimp only at x1 x2 y1 y2
  unfold cfB encB sqc
  dsimp only
  have hw1 : IntKind.i64.wrap (xo - yo) = xo - yo := by rw [IntKind.wrap_i64]; omega
  go_enter Tryz.func130, Tryz.ntmps130
  go_wp2
  go_ret
  exact ⟨rfl, 0, _, by rw [alloc_eq_grow, alloc_eq_grow, grow_grow]; rfl⟩
theorem ins_none (a : Option Addr) (cap : Nat) (fv : Value) (w : World) : Calls Tryz.prog 164 #[.slice a 0 cap, .int .i64 0, .int .i64 0, fv] w fun e w' => e = .returned (.tuple #[]) ∧ w = w' := by
  go_enter Tryz.func164, Tryz.ntmps164
  go_wp2
  go_loopw [8] (fun i wr => i = .int .i64 1 ∧ w = wr) (fun _ _ => 0)
  case atStart => exact ⟨rfl, rfl⟩
  case round =>
    obtain ⟨rfl, rfl⟩ := hrel
    go_wp2
    go_end0
    exact ⟨rfl, rfl⟩
theorem pdq_none (a : Option Addr) (cap : Nat) (l : Int) (fv : Value) (w : World) : Calls Tryz.prog 151 #[.slice a 0 cap, .int .i64 0, .int .i64 0, .int .i64 l, fv] w fun e w' => e = .returned (.tuple #[]) ∧ w = w' := by
  have HI := hid (ins_none a cap fv)
  go_enter Tryz.func151, Tryz.ntmps151
  go_wp2
  go_loopw [1, 2, 3, 10, 11] (fun x y z _ _ wr => x = .int .i64 0 ∧ y = .int .i64 0 ∧ z = .int .i64 l ∧ w = wr) (fun _ _ _ _ _ _ => 0)
  case atStart => exact ⟨rfl, rfl, rfl, rfl⟩
  case round =>
    obtain ⟨rfl, rfl, rfl, rfl⟩ := hrel
    go_wp2_with fail
    refine (HI.out _).mono ?_
    rintro e w1 ⟨rfl, rfl⟩
    go_wp2
    (try simp only [Exit.inBlock, Exit.then])
    refine bodyPost_ret (v := .tuple #[]) (by simp [results, Tryz.results151, go_sem]) rfl ?_
    exact ⟨rfl, rfl⟩
theorem sort_none (a : Option Addr) (cap : Nat) (fv : Value) (w : World) : Calls Tryz.prog 129 #[.slice a 0 cap, fv] w fun e w' => e = .returned (.tuple #[]) ∧ w = w' := by
  have HI := hid (fun l => pdq_none a cap l fv)
  have HL := hid (fun w => len_log0 0 w (by omega) (by omega))
  go_enter Tryz.func129, Tryz.ntmps129
  go_wp2_with fail
  refine (HL.out _).mono ?_
  rintro e w1 ⟨rfl, rfl⟩
  go_wp2_with fail
  refine (HI.out _ _).mono ?_
  rintro e w1 ⟨rfl, rfl⟩
  go_wp2
  go_end0
  exact ⟨rfl, rfl⟩
theorem sort_own (B : Nat) (v : Value) (l : List Sq) (w : World) (hl : ∀ s ∈ l, 0 ≤ s.off ∧ s.off ≤ 1000000000) (hn : l.length ≤ 100000) (hown : w.ownsRow B 44 3 v l.length (l.flatMap sqc)) :
    Calls Tryz.prog 129 #[v, .func (.func 130) #[] #[]] w fun e w' =>
      e = .returned (.tuple #[]) ∧ ∃ l' : List Sq, l'.Perm l ∧ ByOff l' ∧ w'.ownsRow B 44 3 v l'.length (l'.flatMap sqc) ∧ Below B w w' := by
  by_cases h0 : l.length = 0
  · obtain rfl : l = [] := List.eq_nil_of_length_eq_zero h0
    obtain ⟨a, c, rfl⟩ := own_slice hown
    refine (sort_none a c _ w).mono ?_
    rintro e w' ⟨rfl, rfl⟩
    exact ⟨rfl, [], .refl _, .nil, hown, Below.refl _ _⟩
  · obtain ⟨g, cap, cs, rfl, hB, hnc, hm, hblk, hcs⟩ := own_blk hown (by omega)
    have hcl : cs.length = cap * 3 := by
      obtain ⟨_, h2⟩ := hown
      rcases h2 with ⟨h3, _⟩ | ⟨g', cap', cur, hv, _, hg, _, _, hsz, _⟩
      · cases h3
      · cases hv
        have e : some (Obj.cells cs.toArray 44 (0, 0)) = some (.cells cur 44 (0, 0)) := hblk.symm.trans hg
        cases e
        simpa using hsz
    obtain ⟨d, hd⟩ : ∃ d : Array SqB, d = (l.pmap Subtype.mk hl).toArray := ⟨_, rfl⟩
    have hval : d.toList.map Subtype.val = l := by rw [hd]; exact pmap_val l hl
    have hds : d.size = l.length := by rw [hd]; simp
    rw [← hds] at hnc hcs hn ⊢
    have hH : HoldsK encB 3 w g 0 d := holds_blk hblk (by rw [hval]; exact hcs)
    have eg : ∀ args w, (callFunc 130 args).run Tryz.prog w = .ok (.enter 130 args) w := enters_of Tryz.func130 (by kernel_rfl) rfl
    have hcon := AnyQ.slices_SortFunc Tryz.sortSeq 3 Tryz.isAgg44 Tryz.sizeOf44 encB (fun _ => rfl) (fun x v hv => by simp [encB, sqc] at hv; rcases hv with rfl | rfl | rfl <;> rfl) cfB swoB 130 #[] g 0 cap d w eg (fun _ _ _ _ x y => inc1_any x y _) hH hblk.lt (by omega)
    refine hcon.mono ?_
    rintro e w' ⟨rfl, d', n, os, hp, hs, rfl⟩
    have hd' : d'.size = d.size := hp.1
    have hown' := own_sortWorld (m := n) (os := os) (d := d') hblk hB hnc hm hcl hd'
    refine ⟨rfl, d'.toList.map Subtype.val, ?_, sorted_byOff hs hd', ?_, hown'.2⟩
    · have := perm_of_in hp rfl
      rwa [hval] at this
    · have h1 := hown'.1
      rw [show (d'.toList.map Subtype.val).length = d.size from by simp [hd']]
      exact h1
end Go.Proofs.YtiagbejfghincaaGreat
