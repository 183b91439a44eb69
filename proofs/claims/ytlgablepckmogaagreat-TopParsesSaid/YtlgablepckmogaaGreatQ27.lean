/-
  The walks of layer 28, tenth part: a row of sequences is sorted by offset.
  The walks of layer 28, eleventh part: the increasing matches.
  The walks of layer 28, for the comparison with the reference: the reference's increasing matches.
-/
import Derived.Test.YtlgablepckmogaaGreatQ08
import Derived.Test.YtlgablepckmogaaGreatQ10
import Derived.Test.YtlgablepckmogaaGreatSorts
import Derived.Test.YtlgablepckmogaaGreatQ07
import Derived.Test.YtlgablepckmogaaGreatQ03
import Derived.Deep.RegionHeld3
namespace Go.Port
open Go.RowKit Go.Shelf Go.Proofs
open Go.Sort hiding Below
/-- A sequence whose offset is no more than a thousand millions. -/
abbrev SqB := { s : Sq // 0 ≤ s.off ∧ s.off ≤ 1000000000 }
instance : Inhabited SqB := ⟨⟨Sq.zero, by decide⟩⟩
def encB (s : SqB) : List Value := sqc s.1
def cfB (x y : SqB) : Int := x.1.off - y.1.off
theorem ltB (x y : SqB) : ltOf cfB x y = decide (x.1.off < y.1.off) := by
  unfold ltOf cfB
  by_cases h : x.1.off < y.1.off
  · rw [decide_eq_true h, decide_eq_true (by omega)]
  · rw [decide_eq_false h, decide_eq_false (by omega)]
theorem swoB : SWO (ltOf cfB) where
  irrefl x := by rw [ltB]; simp
  trans x y z h1 h2 := by rw [ltB] at *; simp at *; omega
  ntrans x y z h1 h2 := by rw [ltB] at *; simp at *; omega
theorem pmap_val {p : Sq → Prop} (l : List Sq) (h : ∀ s ∈ l, p s) : (l.pmap Subtype.mk h).map Subtype.val = l := by
  induction l with
  | nil => rfl
  | cons x r ih => simp [ih]
theorem flatB (d : Array SqB) : (flatK encB 3 d).toList = (d.toList.map Subtype.val).flatMap sqc := by
  apply List.ext_getElem?
  intro t
  by_cases ht : t < d.size * 3
  · have h3 : t / 3 < d.size := by omega
    have h1 := get_flatK encB 3 d t ht
    have hx : (d.toList.map Subtype.val)[t / 3]? = some d[t / 3]!.1 := by
      rw [List.getElem?_map, Array.getElem?_toList, Array.getElem?_eq_getElem h3, getElem!_pos d (t / 3) h3]
      rfl
    have h2 := sqc_get hx (t % 3) (Nat.mod_lt _ (by omega))
    rw [Nat.div_add_mod' t 3] at h2
    rw [h2, Array.getElem?_toList, Array.getElem?_eq_getElem (by simpa using ht), ← getElem!_pos (flatK encB 3 d) t (by simpa using ht), h1]
    have hl : t % 3 < (encB d[t / 3]!).length := Nat.mod_lt _ (by decide)
    rw [getElem!_pos (encB d[t / 3]!) (t % 3) hl]
    exact (List.getElem?_eq_getElem hl).symm
  · rw [List.getElem?_eq_none (by simp; omega), List.getElem?_eq_none (by rw [sqc_length]; simp; omega)]
theorem putCells_take (F c : Array Value) (h : F.size ≤ c.size) : (putCells id 0 F c).toList.take F.size = F.toList := by
  apply List.ext_getElem?
  intro t
  rw [List.getElem?_take]
  by_cases ht : t < F.size
  · rw [if_pos ht]
    unfold putCells
    rw [Array.getElem?_toList, Array.getElem?_mapIdx, Array.getElem?_eq_getElem (by omega), Array.getElem?_toList, Array.getElem?_eq_getElem ht]
    simp only [Option.map_some]
    rw [if_pos ⟨Nat.zero_le _, by omega⟩, Nat.sub_zero, getElem!_pos F t ht]
    rfl
  · rw [if_neg ht, List.getElem?_eq_none (by simpa using ht)]
theorem holds_blk {w : World} {g : Nat} {cs : List Value} {e : TypeId} {d : Array SqB} (h : Blk w g cs e) (hcs : cs.take (d.size * 3) = (d.toList.map Subtype.val).flatMap sqc) : HoldsK encB 3 w g 0 d := by
  intro j hj
  have hj' : j < d.size * 3 := by simpa using hj
  refine ⟨?_, h.frozen _⟩
  rw [Nat.zero_add]
  refine h.cell ?_
  have : (cs.take (d.size * 3))[j]? = (flatK encB 3 d).toList[j]? := by rw [hcs, flatB]
  rw [List.getElem?_take, if_pos hj', Array.getElem?_toList (xs := flatK encB 3 d), Array.getElem?_eq_getElem hj] at this
  rw [this, getElem!_pos (flatK encB 3 d) j hj]
  rfl
/-- The sort's world holds the row anew; what lay below the row's base stays. -/
theorem own_sortWorld {w : World} {B g n cap m : Nat} {cs : List Value} {e : TypeId} {d : Array SqB} {os : Array Obj} (h : Blk w g cs e) (hB : B ≤ g) (hn : n ≤ cap) (hm : cap ≤ maxLen) (hl : cs.length = cap * 3) (hd : d.size = n) :
    (sortWorldK encB 3 w g 0 m d os).ownsRow B e 3 (.slice (some ⟨g, 0, none⟩) n cap) n ((d.toList.map Subtype.val).flatMap sqc) ∧ Below B w (sortWorldK encB 3 w g 0 m d os) := by
  subst hd
  have hlt : g < w.heap.size := h.lt
  have hF : (flatK encB 3 d).size = d.size * 3 := by simp
  have hle : (flatK encB 3 d).size ≤ cs.toArray.size := by
    have e1 : cs.toArray.size = cap * 3 := by simp [hl]
    rw [hF, e1]
    omega
  refine ⟨⟨by rw [sqc_length]; simp, .inr ⟨g, cap, putCells id 0 (flatK encB 3 d) cs.toArray, rfl, hB, ?_, hn, hm, by unfold putCells; simp [hl], ?_⟩⟩, ?_⟩
  · unfold sortWorldK grow putRowK putRow mapBlock
    show ((w.heap.modify g _) ++ os)[g]? = _
    rw [Array.getElem?_append_left (by simpa using hlt), Array.getElem?_modify, if_pos rfl]
    have h' : w.heap[g]? = some (.cells cs.toArray e (0, 0)) := h
    rw [h']
    rfl
  · rw [← hF, putCells_take _ _ hle, flatB]
  · refine ⟨rfl, rfl, rfl, ?_, fun k hk => ?_⟩
    · unfold sortWorldK
      rw [size_grow, size_putRowK]
      exact Nat.le_add_right _ _
    · unfold sortWorldK grow putRowK putRow mapBlock
      show ((w.heap.modify g _) ++ os)[k]? = _
      rw [Array.getElem?_append_left (by simp; omega), Array.getElem?_modify, if_neg (by omega)]
theorem sorted_byOff {n : Nat} {d' : Array SqB} (hs : SortedIn (ltOf cfB) 0 n d') (hd : d'.size = n) : ByOff (d'.toList.map Subtype.val) := by
  unfold ByOff
  rw [List.pairwise_iff_getElem]
  intro i j hi hj hij
  simp only [List.length_map, Array.length_toList] at hi hj
  have := hs i j (Nat.zero_le _) hij (by omega)
  rw [ltB, getElem!_pos d' i hi, getElem!_pos d' j hj] at this
  simp only [decide_eq_false_iff_not] at this
  simp only [List.getElem_map, Array.getElem_toList]
  omega
theorem perm_of_in {n : Nat} {d d' : Array SqB} (h : PermIn 0 n d d') (hd : d.size = n) : (d'.toList.map Subtype.val).Perm (d.toList.map Subtype.val) := by
  obtain ⟨h1, _, h3⟩ := h
  rw [show d'.extract 0 n = d' from by rw [← hd, ← h1, Array.extract_size], show d.extract 0 n = d from by rw [← hd, Array.extract_size]] at h3
  exact h3.map _
end Go.Port
namespace Go.Proofs.YtlgablepckmogaaGreat
open Go.RowKit Go.Port Go.Shelf
open Go.Sort hiding Below
theorem inc1_any (x y : SqB) (w : World) : Calls Tryz.prog 174 #[.agg (encB x).toArray, .agg (encB y).toArray] w fun e w' => e = .returned (.int .i64 (cfB x y)) ∧ ∃ q os', w' = grow (w.drewN q) os' := by
  obtain ⟨⟨xl, xn, xo⟩, x1, x2⟩ := x
  obtain ⟨⟨yl, yn, yo⟩, y1, y2⟩ := y
  dsimp only at x1 x2 y1 y2
  unfold cfB encB sqc
  dsimp only
  have hw1 : IntKind.i64.wrap (xo - yo) = xo - yo := by rw [IntKind.wrap_i64]; omega
  go_enter Tryz.func174, Tryz.ntmps174
  go_wp2
  go_ret
  exact ⟨rfl, 0, _, by rw [alloc_eq_grow, alloc_eq_grow, grow_grow]; rfl⟩
theorem ins_none (a : Option Addr) (cap : Nat) (fv : Value) (w : World) : Calls Tryz.prog 178 #[.slice a 0 cap, .int .i64 0, .int .i64 0, fv] w fun e w' => e = .returned (.tuple #[]) ∧ w = w' := by
  go_enter Tryz.func178, Tryz.ntmps178
  go_wp2
  go_loopw [8] (fun i wr => i = .int .i64 1 ∧ w = wr) (fun _ _ => 0)
  case atStart => exact ⟨rfl, rfl⟩
  case round =>
    obtain ⟨rfl, rfl⟩ := hrel
    go_wp2
    go_end0
    exact ⟨rfl, rfl⟩
theorem pdq_none (a : Option Addr) (cap : Nat) (l : Int) (fv : Value) (w : World) : Calls Tryz.prog 177 #[.slice a 0 cap, .int .i64 0, .int .i64 0, .int .i64 l, fv] w fun e w' => e = .returned (.tuple #[]) ∧ w = w' := by
  have HI := hid (ins_none a cap fv)
  go_enter Tryz.func177, Tryz.ntmps177
  go_wp2
  go_loopw [1, 2, 3, 10, 11] (fun x y z _ _ wr => x = .int .i64 0 ∧ y = .int .i64 0 ∧ z = .int .i64 l ∧ w = wr) (fun _ _ _ _ _ _ => 0)
  case atStart => exact ⟨rfl, rfl, rfl, rfl⟩
  case round =>
    obtain ⟨rfl, rfl, rfl, rfl⟩ := hrel
    go_wp2_with fail
    refine (HI.out _).mono ?_
    rintro e w1 ⟨rfl, rfl⟩
    go_wp2
    (try simp only [Exit.inBlock, Exit.then])
    refine bodyPost_ret (v := .tuple #[]) (by simp [results, Tryz.results177, go_sem]) rfl ?_
    exact ⟨rfl, rfl⟩
theorem sort_none (a : Option Addr) (cap : Nat) (fv : Value) (w : World) : Calls Tryz.prog 173 #[.slice a 0 cap, fv] w fun e w' => e = .returned (.tuple #[]) ∧ w = w' := by
  have HI := hid (fun l => pdq_none a cap l fv)
  have HL := hid (fun w => len_log0 0 w (by omega) (by omega))
  go_enter Tryz.func173, Tryz.ntmps173
  go_wp2_with fail
  refine (HL.out _).mono ?_
  rintro e w1 ⟨rfl, rfl⟩
  go_wp2_with fail
  refine (HI.out _ _).mono ?_
  rintro e w1 ⟨rfl, rfl⟩
  go_wp2
  go_end0
  exact ⟨rfl, rfl⟩
theorem sort_own (B : Nat) (v : Value) (l : List Sq) (w : World) (hl : ∀ s ∈ l, 0 ≤ s.off ∧ s.off ≤ 1000000000) (hn : l.length ≤ 100000) (hown : w.ownsRow B 43 3 v l.length (l.flatMap sqc)) :
    Calls Tryz.prog 173 #[v, .func (.func 174) #[] #[]] w fun e w' =>
      e = .returned (.tuple #[]) ∧ ∃ l' : List Sq, l'.Perm l ∧ ByOff l' ∧ w'.ownsRow B 43 3 v l'.length (l'.flatMap sqc) ∧ Below B w w' := by
  by_cases h0 : l.length = 0
  · obtain rfl : l = [] := List.eq_nil_of_length_eq_zero h0
    obtain ⟨a, c, rfl⟩ := own_slice hown
    refine (sort_none a c _ w).mono ?_
    rintro e w' ⟨rfl, rfl⟩
    exact ⟨rfl, [], .refl _, .nil, hown, Below.refl _ _⟩
  · obtain ⟨g, cap, cs, rfl, hB, hnc, hm, hblk, hcs⟩ := own_blk hown (by omega)
    have hcl : cs.length = cap * 3 := by
      obtain ⟨_, h2⟩ := hown
      rcases h2 with ⟨h3, _⟩ | ⟨g', cap', cur, hv, _, hg, _, _, hsz, _⟩
      · cases h3
      · cases hv
        have e : some (Obj.cells cs.toArray 43 (0, 0)) = some (.cells cur 43 (0, 0)) := hblk.symm.trans hg
        cases e
        simpa using hsz
    obtain ⟨d, hd⟩ : ∃ d : Array SqB, d = (l.pmap Subtype.mk hl).toArray := ⟨_, rfl⟩
    have hval : d.toList.map Subtype.val = l := by rw [hd]; exact pmap_val l hl
    have hds : d.size = l.length := by rw [hd]; simp
    rw [← hds] at hnc hcs hn ⊢
    have hH : HoldsK encB 3 w g 0 d := holds_blk hblk (by rw [hval]; exact hcs)
    have eg : ∀ args w, (callFunc 174 args).run Tryz.prog w = .ok (.enter 174 args) w := enters_of Tryz.func174 (by kernel_rfl) rfl
    have hcon := AnyQ.slices_SortFunc Tryz.sortSeq 3 Tryz.isAgg43 Tryz.sizeOf43 encB (fun _ => rfl) (fun x v hv => by simp [encB, sqc] at hv; rcases hv with rfl | rfl | rfl <;> rfl) cfB swoB 174 #[] g 0 cap d w eg (fun _ _ _ _ x y => inc1_any x y _) hH hblk.lt (by omega)
    refine hcon.mono ?_
    rintro e w' ⟨rfl, d', n, os, hp, hs, rfl⟩
    have hd' : d'.size = d.size := hp.1
    have hown' := own_sortWorld (m := n) (os := os) (d := d') hblk hB hnc hm hcl hd'
    refine ⟨rfl, d'.toList.map Subtype.val, ?_, sorted_byOff hs hd', ?_, hown'.2⟩
    · have := perm_of_in hp rfl
      rwa [hval] at this
    · have h1 := hown'.1
      rw [show (d'.toList.map Subtype.val).length = d.size from by simp [hd']]
      exact h1
end Go.Proofs.YtlgablepckmogaaGreat
namespace Go.Port
open Go.RowKit
def scanL (l : List Sq) : Int := ((scanGo 2 l).getLastD ⟨0, 2, 0⟩).len
theorem scan_step {l : List Sq} {k : Nat} {x : Sq} (h : l[k]? = some x) :
    scanGo 2 (l.take (k + 1)) = scanGo 2 (l.take k) ++ (if scanL (l.take k) < x.len then [x] else []) := by
  obtain ⟨h1, h2⟩ := List.getElem?_eq_some_iff.1 h
  rw [List.take_succ_eq_append_getElem h1, h2, scanGo_append]
  congr 1
theorem scanL_step {l : List Sq} {k : Nat} {x : Sq} (h : l[k]? = some x) : scanL (l.take (k + 1)) = if scanL (l.take k) < x.len then x.len else scanL (l.take k) := by
  have e := scan_step h
  show ((scanGo 2 (l.take (k + 1))).getLastD ⟨0, 2, 0⟩).len = _
  rw [e]
  by_cases hh : scanL (l.take k) < x.len
  · rw [if_pos hh, if_pos hh]
    simp
  · rw [if_neg hh, if_neg hh, List.append_nil]
    rfl
theorem scanGo_length (l : List Sq) : ∀ n : Int, (scanGo n l).length ≤ l.length := by
  induction l with
  | nil => intro n; exact Nat.le_refl _
  | cons x r ih =>
    intro n
    unfold scanGo
    split
    · simp only [List.length_cons]; have := ih x.len; omega
    · simp only [List.length_cons]; have := ih n; omega
theorem matches_off {b : List UInt8} {pos most : Int} {frm : List Int} (hb : b.length ≤ 1000000) : ∀ s ∈ matchesS b pos most frm, 0 ≤ s.off ∧ s.off ≤ 1000000000 := by
  intro s hs
  obtain ⟨x, _, he, rfl⟩ := matchesS_mem hs
  simp only [earlierB, Bool.and_eq_true, decide_eq_true_eq] at he
  exact ⟨by show (0 : Int) ≤ pos - x; omega, by show pos - x ≤ (1000000000 : Int); omega⟩
end Go.Port
namespace Go.Proofs.YtlgablepckmogaaGreat
open Go.RowKit Go.Port
set_option maxRecDepth 100000 in
set_option maxHeartbeats 2000000 in
theorem increasing_any (a a2 : Option Addr) (c c2 : Nat) (b : List UInt8) (pos most : Int) (frm : List Int) (w : World) (hb : b.length ≤ 1000000) (hbc : b.length ≤ c) (hf : frm.length ≤ 100000)
    (hc : ∀ j u, (b.map bv)[j]? = some u → ∃ bl off, a = some ⟨bl, off, none⟩ ∧ bl < w.heap.size ∧ w.cell? ⟨bl, off + j, none⟩ = some u)
    (hc2 : ∀ j u, (frm.map iv)[j]? = some u → ∃ bl off, a2 = some ⟨bl, off, none⟩ ∧ bl < w.heap.size ∧ w.cell? ⟨bl, off + j, none⟩ = some u) :
    Calls Tryz.prog 163 #[.slice a b.length c, .int .i64 pos, .int .i64 most, .slice a2 frm.length c2] w fun e w' => ∃ v, e = .returned v ∧ w'.ownsRow w.heap.size 43 3 v (incS b pos most frm).length ((incS b pos most frm).flatMap sqc) ∧ Below w.heap.size w w' := by
  have HM := hid (matches_any a a2 c c2 b pos most frm w hb hbc hf hc hc2)
  have hml := matchesS_length b pos most frm
  have HOFF := hid (matches_off (b := b) (pos := pos) (most := most) (frm := frm) hb)
  have HINC := hid (fun (l : List Sq) (hp : l.Perm (matchesS b pos most frm)) (hs : ByOff l) => (show scanGo 2 l = incS b pos most frm from (rise_eq b pos most frm l hp hs (frm.length + 1) (by have := hp.length_eq; omega)).symm))
  generalize incS b pos most frm = R at *
  generalize matchesS b pos most frm = l at *
  clear hc hc2
  go_enter Tryz.func163, Tryz.ntmps163
  go_wp2_with fail
  refine HM.out.mono ?_
  rintro e w1 ⟨v, rfl, hown, hb1⟩
  have HSO := hid (sort_own (w.heap.size + 1) v l w1 HOFF.out (by omega) hown)
  have HB1 := hid hb1
  clear hown hb1 HM
  go_wp2_with fail
  refine HSO.out.mono ?_
  rintro e w2 ⟨rfl, l2, hp, hs, hown, hb2⟩
  obtain ⟨av, cv, rfl⟩ := own_slice hown
  have HB2 := hid (HB1.out.trans (hb2.mono (Nat.le_succ _)))
  have HR := hid (HINC.out l2 hp hs)
  have hl2 : l2.length ≤ 100000 := by have := hp.length_eq; omega
  have HC := hid (fun W (hW : Below w2.heap.size w2 W) j u (hu : (l2.flatMap sqc)[j]? = some u) => (show ∃ bl off, av = some ⟨bl, off, none⟩ ∧ bl < W.heap.size ∧ W.cell? ⟨bl, off + j, none⟩ = some u from by
    obtain ⟨_, _, e, _, _, _, h⟩ := ((Sl.of_owns hown).below hW).open
    cases e
    exact h j u hu))
  clear hp hs hown hb2 HB1 HSO HINC HOFF
  go_wp2
  go_loopw [8, 10, 22] (fun v8 v10 i wr => ∃ k : Nat, k ≤ l2.length ∧ i = .int .i64 k ∧ v10 = .int .i64 (scanL (l2.take k)) ∧ wr.ownsRow w2.heap.size 43 3 v8 (scanGo 2 (l2.take k)).length ((scanGo 2 (l2.take k)).flatMap sqc) ∧ Below w2.heap.size w2 wr) (fun _ _ i _ => l2.length - (intOf i).toNat)
  case atStart => exact ⟨0, Nat.zero_le _, rfl, rfl, World.ownsRow_nil _ _ _ _, Below.refl _ _⟩
  case round =>
    obtain ⟨k, hk, rfl, rfl, hown, hB⟩ := hrel
    by_cases hlt : k < l2.length
    · obtain ⟨x, hx⟩ : ∃ x, l2[k]? = some x := ⟨l2[k], by simp [hlt]⟩
      have HST := hid (scan_step hx)
      have HSL := hid (scanL_step hx)
      have hsl := scanGo_length (l2.take k) 2
      rw [List.length_take] at hsl
      obtain ⟨bl, off, rfl, hb0, c0⟩ := HC.out wr hB (k * 3 + 0) (.int .i64 x.lit) (by rw [sqc_get hx 0 (by omega)]; rfl)
      obtain ⟨bl1, off1, e1, _, c1⟩ := HC.out wr hB (k * 3 + 1) (.int .i64 x.len) (by rw [sqc_get hx 1 (by omega)]; rfl)
      cases e1
      obtain ⟨bl2, off2, e2, _, c2⟩ := HC.out wr hB (k * 3 + 2) (.int .i64 x.off) (by rw [sqc_get hx 2 (by omega)]; rfl)
      cases e2
      rw [Nat.add_zero] at c0
      rw [← Nat.add_assoc] at c1 c2
      have hkI : (k : Int) < (l2.length : Int) := by omega
      have hBa := hB.alloc hB.size (.cells #[.int .i64 x.lit, .int .i64 x.len, .int .i64 x.off] 43)
      have HO := hid (own_low hown (below_new wr (.cells #[.int .i64 x.lit, .int .i64 x.len, .int .i64 x.off] 43)))
      have HBa := hid hBa
      have HNE := hid (fun h : some wr.heap.size = Value.ownBlock _ => Nat.lt_irrefl _ (hown.lt wr.heap.size h.symm).2)
      have hA : (wr.alloc (.cells #[.int .i64 x.lit, .int .i64 x.len, .int .i64 x.off] 43)).heap.size = wr.heap.size + 1 := by simp
      have hsz := hBa.size
      generalize scanL (l2.take k) = L at *
      clear hown hB hBa hx
      by_cases hlx : L < x.len
      · obtain ⟨av, cv, rfl⟩ := own_slice HO.out
        go_wp2_with (at_builtin; refine Hid.out ?_)
        refine hid ?_
        refine wpList_append1 rfl _ _ 28 rfl 43 _ 3 24 Tryz.underlying28 Tryz.info_seq rfl (by decide) (by decide) _ w2.heap.size _ _ _ [.int .i64 x.lit, .int .i64 x.len, .int .i64 x.off] rfl ?hu rfl ?hx (by exact HO.out) ?hn ?hb ?hk
        case hu => simp [Value.oneCell']
        case hx => exact congrArg (fun z => Value.slice (some ⟨z, 0, none⟩) 1 1) hA.symm
        case hn => omega
        case hb => exact hsz
        case hk =>
          intro v' w3 hown' hg
          have hbg := below_grown HO.out hg hsz
          have HB3 := hid (HBa.out.trans hbg)
          have HO3 := hid hown'
          have d1 := ((Blk.new wr [.int .i64 x.lit, .int .i64 x.len, .int .i64 x.off] 43).grown hg HNE.out).cell (k := 1) rfl
          clear hown' hg hbg
          go_wp2
          go_roundw
          case rel =>
            refine ⟨k + 1, hlt, by go_num, ?_, ?_, HB3.out⟩
            · rw [HSL.out, if_pos hlx]
            · have h3 := HO3.out
              rw [HST.out, if_pos hlx, List.length_append, List.flatMap_append]
              exact h3
          case measure => simp [intOf]; omega
      · go_wp2
        go_roundw
        case rel =>
          refine ⟨k + 1, hlt, by go_num, ?_, ?_, HBa.out⟩
          · rw [HSL.out, if_neg hlx]
          · rw [HST.out, if_neg hlx, List.append_nil]
            exact HO.out
        case measure => simp [intOf]; omega
    · obtain rfl : k = l2.length := by omega
      rw [List.take_of_length_le (Nat.le_refl _), HR.out] at hown
      have HO := hid (own_le hown HB2.out.size)
      have HB9 := hid (HB2.out.trans (hB.mono HB2.out.size))
      clear hown hB
      go_wp2
      go_ret
      exact ⟨_, rfl, HO.out, HB9.out⟩
end Go.Proofs.YtlgablepckmogaaGreat
namespace Go.Port
open Go.RowKit
theorem riseGo_len (l : List Sq) : ∀ (f : Nat) (last longest : Int), (riseGo f l last longest).length ≤ f := by
  intro f
  induction f with
  | zero => intro last longest; simp [riseGo]
  | succ f ih =>
    intro last longest
    unfold riseGo
    split
    · simp
    · rename_i y _
      split
      · have := ih y.off y.len
        simp only [List.length_cons]
        omega
      · have := ih y.off longest
        omega
end Go.Port
namespace Go.Proofs.YtlgablepckmogaaGreat
open Go.RowKit Go.Port
end Go.Proofs.YtlgablepckmogaaGreat
