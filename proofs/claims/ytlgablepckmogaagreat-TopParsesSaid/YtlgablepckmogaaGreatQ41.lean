/-
  The walks of layer 6 (ring): an append and where its result lies; put, Add.
  The walks of layer 6 (ring): Copy.
-/
import Derived.Test.YtlgablepckmogaaGreatQ40
import Derived.Test.YtlgablepckmogaaGreatQ08
import Derived.ArgAppend
import Derived.Laws.AppendOwnNone
namespace Go.Port
open Go.RowKit
/-- An append to a row of one's own, and where its result lies: in the same row or in a new one. -/
theorem run_appendsN {P : Program} {W : World} (base : Nat) (t ty e : TypeId) (i : TypeInfo) (z : Value) (sz bytes : Nat) (ht : P.underlying t = some (.slice e)) (hi : P.info? e = some i) (hz : i.zero = some z) (hsize : i.size = sz) (hby : i.bytes = bytes) (hzs : z.cells.size = sz) (hsz : 0 < sz)
    (v : Value) (n : Nat) (xs : List Value) (hown : W.ownsRow base e sz v n xs) (ad : Option Addr) (m c : Nat) (us : List Value) (hus : us.length = m * sz) (hac : ad = none → c = 0) (hmc : m ≤ c) (hc : CellsAt W ad us) (hu : ∀ u ∈ us, u.oneCell' = true)
    (h63 : n + m ≤ maxLen) (hbytes : (n + m) * bytes ≤ 140737488355328) (hbase : base ≤ W.heap.size) :
    ∃ v' w', (Builtin.append_ #[t, t] ty #[v, .slice ad m c]).run P W = .ok v' w' ∧ w'.ownsRow base e sz v' (n + m) (xs ++ us) ∧ W.grownBy w' v.ownBlock ∧ (v'.ownBlock = v.ownBlock ∨ ∀ r, v'.ownBlock = some r → W.heap.size ≤ r) := by
  cases ad with
  | none =>
    have hc0 : c = 0 := hac rfl
    subst hc0
    obtain rfl : m = 0 := by omega
    have : us = [] := List.eq_nil_of_length_eq_zero (by omega)
    subst this
    have hrun := run_append_owned_none (P := P) (w := W) base t ty e i sz ht hi v n xs hown
    exact ⟨v, W, hrun, by simpa using hown, World.grownBy.refl W _, .inl rfl⟩
  | some ad =>
    have hnews : ∀ j u, us[j]? = some u → W.cell? (ad.add j) = some u := fun j u hj => by
      obtain ⟨b, off, e1, _, e2⟩ := hc j u hj
      simp only [Option.some.injEq] at e1
      subst e1
      rw [Go.WideShapes.add_plain]
      exact e2
    rcases hown.2 with ⟨rfl, rfl⟩ | ⟨g, cap, cur, rfl, hg, hat, hnc, hm, hs2, htk⟩
    · have hx : xs = [] := List.eq_nil_of_length_eq_zero (by simpa using hown.1)
      subst hx
      obtain ⟨v', w', h1, h2, h3, _⟩ := run_append_own (P := P) W W.heap.size t ty e i z sz bytes ht hi hz hsize hby hzs hsz (.slice none 0 0) 0 [] (World.ownsRow_nil W _ e sz) ad m c us hus hnews hu h63 hbytes (Nat.le_refl _)
      exact ⟨v', w', h1, own_le h2 hbase, h3, .inr fun r e => (h2.lt r e).1⟩
    · obtain ⟨v', w', h1, h2, h3, _⟩ := run_append_own (P := P) W base t ty e i z sz bytes ht hi hz hsize hby hzs hsz _ n xs hown ad m c us hus hnews hu h63 hbytes hbase
      refine ⟨v', w', h1, h2, h3, ?_⟩
      by_cases hr : n + m ≤ cap
      · left
        have hcell : ∀ j, j < us.length → (W.cell? ⟨g, 0 + n * i.size + j, none⟩).isSome = true := fun j hj => by
          have : 0 + n * i.size + j < cur.size := by
            rw [hsize, hs2, Nat.zero_add]
            have := Nat.mul_le_mul_right sz hr
            rw [Nat.add_mul] at this
            rw [hus] at hj
            omega
          simp [World.cell?, hat]
          omega
        have hfz : ∀ j, j < us.length → W.frozen? ⟨g, 0 + n * i.size + j, none⟩ = false := fun j _ => by
          simp [World.frozen?, hat]
        have h4 := run_append_room_cells (P := P) W t ty e i ht hi g 0 n cap ad m c us (by rw [hus, hsize]) hnews hu hr hcell hfz
        rw [h1] at h4
        injection h4 with e1 e2
        subst e1
        rfl
      · right
        have hol : ∀ j u, xs[j]? = some u → W.cell? ((⟨g, 0, none⟩ : Addr).add j) = some u := fun j u hj => by
          rw [Go.WideShapes.add_plain]
          obtain ⟨b, o, e1, _, e2⟩ := (Sl.of_owns hown).cells' rfl j u hj
          cases e1
          exact e2
        obtain ⟨v2, w2, h4, h5, _⟩ := run_append_arg_grows (P := P) W t ty e i z sz bytes ht hi hz hsize hby hzs hsz ⟨g, 0, none⟩ n cap xs hown.1 hol ad m c us hus hnews (by omega) h63 hbytes
        rw [h1] at h4
        injection h4 with e1 e2
        subst e1
        exact fun r e => (h5.lt r e).1
/-- .. for the walk. -/
theorem wpList_appendsN {P : Program} {ops : Array Oper} {rest : List Oper} {o : Oper} {a : Act} {Q : Exit → Act → World → Prop} (hgd : o.guard = none) (s x : Operand) (t : TypeId)
    (ho : o.op = .call { callee := .builtin .append, args := #[s, x], argTypes := #[t, t] }) (e : TypeId) (z : Value) (sz bytes : Nat) (ht : P.underlying t = some (.slice e))
    (hi : (P.info? e).map (fun i => (i.zero, i.size, i.bytes)) = some (some z, sz, bytes)) (hz : z.cells.size = sz) (hsz : 0 < sz) (W : World) (base : Nat) (v : Value) (n m c : Nat) (ad : Option Addr) (xs us : List Value)
    (hus : us.length = m * sz) (hu : ∀ u ∈ us, u.oneCell' = true) (hs : a.eval s = v) (hx : a.eval x = .slice ad m c) (hmc : m ≤ c) (had : ad = none → c = 0) (hc : CellsAt W ad us)
    (hown : W.ownsRow base e sz v n xs) (h63 : n + m ≤ maxLen) (hn : (n + m) * bytes ≤ 140737488355328) (hbase : base ≤ W.heap.size)
    (h : ∀ v' w', w'.ownsRow base e sz v' (n + m) (xs ++ us) → W.grownBy w' v.ownBlock → (v'.ownBlock = v.ownBlock ∨ ∀ r, v'.ownBlock = some r → W.heap.size ≤ r) → wpList P ops Q rest (a.put o.dst v') w') : wpList P ops Q (o :: rest) a W := by
  obtain ⟨i0, hi0, hz0, hz1, hz2⟩ := info_parts hi
  refine wpList_plain hgd fun K hK' => ?_
  obtain ⟨v', w', hrun, h1, h2, h3⟩ := run_appendsN (P := P) base t o.type e i0 z sz bytes ht hi0 hz0 hz1 hz2 hz hsz v n xs hown ad m c us hus had hmc hc hu h63 hn hbase
  unfold Oper.wp
  simp [execOp, ho, resolve, invoke, builtin, hs, hx, hrun, Result.andThen]
  exact hK' _ _ (h v' w' h1 h2 h3)
theorem RgAt.appended {tr te : TypeId} {base rb size : Nat} {row : Option Nat} {st last bs : List UInt8} {al a' : Option Addr} {cl c' m : Nat} {tot : Int} {w w2 : World} (h : RgAt tr te base rb row size st w) (h1 : Blk w rb [.slice al last.length cl, .int .i64 (size : Int), .int .i64 tot] tr)
    (h2 : w.ownsRow base te 1 (.slice al last.length cl) last.length (last.map bv)) (h3 : (Value.slice al last.length cl).ownBlock = row) (h4 : RingIn size st last) (hm : m = last.length + bs.length)
    (hown : w2.ownsRow base te 1 (.slice a' m c') (last.length + bs.length) (last.map bv ++ bs.map bv)) (hg : w.grownBy w2 (Value.slice al last.length cl).ownBlock) (hnx : (Value.slice a' m c').ownBlock = (Value.slice al last.length cl).ownBlock ∨ ∀ r, (Value.slice a' m c').ownBlock = some r → w.heap.size ≤ r) (hn : st.length + bs.length ≤ 1000000) :
    RgAt tr te base rb (Value.slice a' m c').ownBlock size (st ++ bs) (w2.setCell ⟨rb, 0, none⟩ (.slice a' m c')) ∧ Turned rb row (Value.slice a' m c').ownBlock w (w2.setCell ⟨rb, 0, none⟩ (.slice a' m c')) := by
  have hne := own_neT h2 h1 h.ne
  have hB2 := h1.grown hg hne
  have hne2 : (Value.slice a' m c').ownBlock ≠ some rb := (own_neT hown hB2 h.ne).symm
  subst hm
  have hl : (last ++ bs).length = last.length + bs.length := List.length_append
  refine ⟨⟨⟨a', c', last ++ bs, tot, ?_, ?_, by rw [hl], h4.put bs⟩, h.rb0, h.s1, h.s2, by rw [List.length_append]; exact hn, h.ne⟩, ?_⟩
  · rw [hl]
    exact hB2.set 0 _
  · rw [hl, List.map_append]
    exact ownsRow_setCell_other hown (a := ⟨rb, 0, none⟩) hne2 _
  · refine ⟨hg.os, hg.tape, hg.output, Nat.le_trans hg.size (by simp), fun k hk hk1 hk2 => ?_, ?_⟩
    · rw [Below.heap_setCell _ ⟨rb, 0, none⟩ _ k (fun e => hk1 e)]
      exact hg.block k hk (by rw [h3]; exact hk2)
    · rw [← h3]
      exact hnx
theorem RgAt.tot {tr te : TypeId} {base rb size : Nat} {row : Option Nat} {st : List UInt8} {w : World} (h : RgAt tr te base rb row size st w) :
    ∃ (lv : Value) (t : Int), Blk w rb [lv, .int .i64 (size : Int), .int .i64 t] tr := by
  obtain ⟨al, cl, last, t, h1, _⟩ := h.ex
  exact ⟨_, t, h1⟩
theorem RgAt.bw {tr te : TypeId} {base rb size : Nat} {row : Option Nat} {st : List UInt8} {w : World} (h : RgAt tr te base rb row size st w) : base ≤ w.heap.size := by
  obtain ⟨al, cl, last, t, h1, _⟩ := h.ex
  have := h.rb0
  have := h1.lt
  omega
end Go.Port
namespace Go.Proofs.YtlgablepckmogaaGreat
open Go.RowKit Go.Port
set_option maxRecDepth 100000 in
set_option maxHeartbeats 2000000 in
theorem rgput_any (base rb : Nat) (row : Option Nat) (size : Nat) (st bs : List UInt8) (ad : Option Addr) (c : Nat) (w : World) (h : RgAt 66 5 base rb row size st w) (hn : st.length + bs.length ≤ 1000000) (hbc : bs.length ≤ c) (hac : ad = none → c = 0) (hc : CellsAt w ad (bs.map bv)) :
    Calls Tryz.prog 25 #[.pointer (some ⟨rb, 0, none⟩), .slice ad bs.length c] w fun e w' => e = .returned (.tuple #[]) ∧ ∃ row', RgAt 66 5 base rb row' size (st ++ bs) w' ∧ Turned rb row row' w w' := by
  have HR := hid h
  have hbw := h.bw
  obtain ⟨al, cl, last, tot, h1, h2, h3, h4⟩ := h.ex
  have hle := h4.le
  have c0 := h1.cell (k := 0) rfl
  have HX := hid (And.intro h1 (And.intro h2 (And.intro h3 h4)))
  have HC := hid hc
  have HN := hid hn
  have HL := hid hle
  clear h h1 h2 h3 h4 hc hn hle
  go_enter Tryz.func25, Tryz.ntmps25
  go_wp2_with (at_builtin; refine Hid.out ?_)
  refine hid ?_
  refine wpList_appendsN rfl _ _ 22 rfl 5 _ 1 1 Tryz.underlying22 Tryz.info_byte rfl (by decide) w base (.slice al last.length cl) last.length bs.length c ad (last.map bv) (bs.map bv) (by simp) ?hu rfl rfl hbc hac HC.out HX.out.2.1 ?h63 ?hn hbw ?hk
  case hu =>
    intro u hu
    obtain ⟨x, _, rfl⟩ := List.mem_map.1 hu
    rfl
  case h63 => have := HN.out; have := HL.out; simp only [maxLen]; omega
  case hn => have := HN.out; have := HL.out; omega
  case hk =>
    intro v' w2 hown hg hnx
    obtain ⟨h1, h2, h3, h4⟩ := HX.out
    obtain ⟨a', c', rfl⟩ := own_slice hown
    have hgo := HR.out.appended h1 h2 h3 h4 rfl hown hg hnx HN.out
    have hB2 := h1.grown hg (own_neT h2 h1 (by decide))
    have y0 := hB2.cell (k := 0) rfl
    have z0 := hB2.frozen 0
    have HGo := hid hgo
    clear hown hg hnx h1 h2 h3 h4 hgo hB2 c0 HX
    go_wp2
    generalize w2.setCell ⟨rb, 0, none⟩ (.slice a' (last.length + bs.length) c') = w3 at *
    have hR3 := HGo.out.1
    have hT3 := HGo.out.2
    obtain ⟨lv, t3, hb3⟩ := hR3.tot
    have hc3 := hb3.cell (k := 1) rfl
    have HK := hid (fun (W : World) (hb : Below w3.heap.size w3 W) => rgkeep_any base rb (Value.slice a' (last.length + bs.length) c').ownBlock size (st ++ bs) W (hR3.below hb))
    have HT3 := hid hT3
    clear HGo hR3 hT3 hb3 HR HC HN HL
    refine wp_region_noPanic ?_
    refine wp_region_held_drew (S := fun W => W.cell? ⟨rb, 1, none⟩ = some (.int .i64 (size : Int))) (by kernel_rfl) hc3 (fun hHeld => ?_)
    refine wpAnyH_take (i := 0) (v := .pointer (some ⟨rb, 0, none⟩)) (by simp only [List.getElem?_toArray, List.getElem?_cons_zero]; rfl) (by kernel_rfl) (by kernel_rfl) (by kernel_rfl) (fun _ _ _ h => h) (Or.inl ⟨by rfl, fun W hSw => ?_⟩) (by assumption) ?_
    · clear hSw
      go_simp
    simp only [Act.put, List.setIfInBounds_toArray, List.set_cons_zero, List.set_cons_succ]
    refine wpAnyH_take (i := 1) (v := .pointer (some ⟨rb, 0, none⟩)) (by simp only [List.getElem?_toArray, List.getElem?_cons_zero, List.getElem?_cons_succ]; rfl) (by kernel_rfl) (by kernel_rfl) (by kernel_rfl) (fun _ _ _ h => h) (Or.inl ⟨by rfl, fun W hSw => ?_⟩) (by assumption) ?_
    · clear hSw
      go_simp
    simp only [Act.put, List.setIfInBounds_toArray, List.set_cons_zero, List.set_cons_succ]
    refine wpAnyH_take (i := 2) (v := .pointer (some ⟨rb, 0, none⟩)) (by simp only [List.getElem?_toArray, List.getElem?_cons_zero, List.getElem?_cons_succ]; rfl) (by kernel_rfl) (by kernel_rfl) (by kernel_rfl) (fun _ _ _ h => h) (Or.inl ⟨by rfl, fun W hSw => ?_⟩) (by assumption) ?_
    · clear hSw
      go_simp
    simp only [Act.put, List.setIfInBounds_toArray, List.set_cons_zero, List.set_cons_succ]
    refine wpAnyH_take (i := 3) (v := .pointer (some ⟨rb, 0, none⟩)) (by simp only [List.getElem?_toArray, List.getElem?_cons_zero, List.getElem?_cons_succ]; rfl) (by kernel_rfl) (by kernel_rfl) (by kernel_rfl) (fun _ _ _ h => h) (Or.inl ⟨by rfl, fun W hSw => ?_⟩) (by assumption) ?_
    · clear hSw
      go_simp
    simp only [Act.put, List.setIfInBounds_toArray, List.set_cons_zero, List.set_cons_succ]
    refine wpAnyH_take (i := 4) (v := .pointer (some ⟨rb, 0, none⟩)) (by simp only [List.getElem?_toArray, List.getElem?_cons_zero, List.getElem?_cons_succ]; rfl) (by kernel_rfl) (by kernel_rfl) (by kernel_rfl) (fun _ _ _ h => h) (Or.inl ⟨by rfl, fun W hSw => ?_⟩) (by assumption) ?_
    · clear hSw
      go_simp
    simp only [Act.put, List.setIfInBounds_toArray, List.set_cons_zero, List.set_cons_succ]
    refine wpAnyH_take (i := 5) (v := .pointer (some ⟨rb, 1, none⟩)) (by simp only [List.getElem?_toArray, List.getElem?_cons_zero, List.getElem?_cons_succ]; rfl) (by kernel_rfl) (by kernel_rfl) (by kernel_rfl) (fun _ _ _ h => h) (Or.inl ⟨by rfl, fun W hSw => ?_⟩) (by assumption) ?_
    · clear hSw
      go_simp
    simp only [Act.put, List.setIfInBounds_toArray, List.set_cons_zero, List.set_cons_succ]
    refine wpAnyH_take (i := 6) (v := .int .i64 (size : Int)) (by simp only [List.getElem?_toArray, List.getElem?_cons_zero, List.getElem?_cons_succ]; rfl) (by kernel_rfl) (by kernel_rfl) (by kernel_rfl) (fun _ _ _ h => h) (Or.inl ⟨by rfl, fun W hSw => ?_⟩) (by assumption) ?_
    · have hcw : W.cell? ⟨rb, 1, none⟩ = some (.int .i64 (size : Int)) := hSw
      go_simp
    simp only [Act.put, List.setIfInBounds_toArray, List.set_cons_zero, List.set_cons_succ]
    refine wpAnyH_ready (rs := [7]) (by kernel_rfl) (by simp) ?_
    refine AllReadyH.cons (by simp only [List.getElem?_toArray, List.getElem?_cons_zero, List.getElem?_cons_succ]; rfl) (fun K hK => ?_) AllReadyH.nil
    rw [if_pos (by rfl)]
    go_simp
    go_at_call 48
    refine (HK.out _ ((Below.refl _ _).drew)).mono ?_
    rintro e w4 ⟨rfl, row4, hR4, hT4⟩
    obtain ⟨lv4, t4, hb4⟩ := hR4.tot
    have hc4 := hb4.cell (k := 1) rfl
    have HR4 := hid hR4
    have HT4 := hid (HT3.out.trans ((Turned.of_below ((Below.refl _ _).drew)).trans hT4))
    dsimp only
    refine hK.out _ _ hc4 (fun _ => ?_)
    clear hK K hR4 hT4 hb4 hc4
    refine wpAnyH_done (by kernel_rfl) ?_ _
    refine NoPanic.normal ?_
    go_wp2
    go_end0
    exact ⟨rfl, row4, HR4.out, HT4.out⟩
theorem rg_retot {base rb size : Nat} {row : Option Nat} {st : List UInt8} {w : World} (h : RgAt 66 5 base rb row size st w) (t : Int) : RgAt 66 5 base rb row size st (w.setCell ⟨rb, 2, none⟩ (.int .i64 t)) ∧ Turned rb row row w (w.setCell ⟨rb, 2, none⟩ (.int .i64 t)) := by
  obtain ⟨al, cl, last, tot, h1, h2, h3, h4⟩ := h.ex
  refine ⟨⟨⟨al, cl, last, t, h1.set 2 _, ownsRow_setCell_other h2 (a := ⟨rb, 2, none⟩) (fun e => own_neT h2 h1 h.ne e.symm) _, h3, h4⟩, h.rb0, h.s1, h.s2, h.len, h.ne⟩, rfl, rfl, rfl, by simp, fun k _ hk1 _ => Below.heap_setCell _ ⟨rb, 2, none⟩ _ k (fun e => hk1 e), .inl rfl⟩
set_option maxRecDepth 100000 in
set_option maxHeartbeats 2000000 in
theorem rgadd_any (base rb : Nat) (row : Option Nat) (size : Nat) (st bs : List UInt8) (ad : Option Addr) (c : Nat) (w : World) (h : RgAt 66 5 base rb row size st w) (hn : st.length + bs.length ≤ 1000000) (hbc : bs.length ≤ c) (hac : ad = none → c = 0) (hc : CellsAt w ad (bs.map bv)) (hx : ∀ x, ad = some x → x.block ≠ rb) :
    Calls Tryz.prog 96 #[.pointer (some ⟨rb, 0, none⟩), .slice ad bs.length c] w fun e w' => e = .returned (.int .i64 0) ∧ ∃ row', RgAt 66 5 base rb row' size (st ++ bs) w' ∧ Turned rb row row' w w' := by
  obtain ⟨lv, tot, h1⟩ := h.tot
  have HNo := hid (rgnone_any rb size _ tot w h1 h.s1)
  have c2 := h1.cell (k := 2) rfl
  have z2 := h1.frozen 2
  have HR := hid (fun t => rg_retot h t)
  have HC := hid hc
  have HP := hid (fun W (hR : RgAt 66 5 base rb row size st W) hcW => rgput_any base rb row size st bs ad c W hR hn hbc hac hcW)
  have HXx := hid hx
  clear h h1 hc hx
  go_enter Tryz.func96, Tryz.ntmps96
  go_wp2_with (go_at_call 29; refine HNo.out.mono ?_; rintro e w' ⟨rfl, rfl⟩)
  go_at_call 25
  have hr := HR.out (wrap64 (tot + (bs.length : Int)))
  have hcc : CellsAt (w.setCell ⟨rb, 2, none⟩ (.int .i64 (wrap64 (tot + (bs.length : Int))))) ad (bs.map bv) := by
    intro j u hu
    obtain ⟨b, o, e, k1, k2⟩ := HC.out j u hu
    have hne := HXx.out _ e
    refine ⟨b, o, e, by simpa using k1, ?_⟩
    rw [← k2]
    exact World.cell?_of_block (Below.heap_setCell _ ⟨rb, 2, none⟩ _ b hne)
  refine (HP.out _ hr.1 hcc).mono ?_
  rintro e w4 ⟨rfl, row4, hR4, hT4⟩
  have HR4 := hid hR4
  have HT4 := hid (hr.2.trans hT4)
  clear hr hcc hR4 hT4 c2 z2 HR HP
  dsimp only
  go_wp2
  go_ret
  exact ⟨rfl, row4, HR4.out, HT4.out⟩
end Go.Proofs.YtlgablepckmogaaGreat
namespace Go.Port
open Go.RowKit
/-- n bytes, from the first on again where they end. -/
def gathL (fr : List UInt8) (d n : Nat) : List UInt8 := (List.range n).map fun i => fr.getD (i % d) 0
theorem gathL_succ (fr : List UInt8) (d n : Nat) : gathL fr d (n + 1) = gathL fr d n ++ [fr.getD (n % d) 0] := by simp [gathL, List.range_succ]
theorem copyS_gath (st : List UInt8) (d n : Nat) : copyS st d n = gathL (st.drop (st.length - d)) d n := by
  unfold copyS gathL
  apply List.map_congr_left
  intro i _
  rw [List.getD_eq_getElem?_getD, List.getD_eq_getElem?_getD, List.getElem?_drop]
end Go.Port
namespace Go.Proofs.YtlgablepckmogaaGreat
open Go.RowKit Go.Port
theorem rgone_any (fb ob d i : Nat) (ad : Option Addr) (fr : List UInt8) (w : World) (hf : Blk w fb [.slice ad d d] 22) (ho : Blk w ob [.int .i64 (d : Int)] 3) (hc : CellsAt w ad (fr.map bv)) (hl : fr.length = d) (hd : 1 ≤ d) (hB : d ≤ 134217728) :
    Calls Tryz.prog 126 #[.int .i64 (i : Int), .pointer (some ⟨fb, 0, none⟩), .pointer (some ⟨ob, 0, none⟩)] w fun e w' => e = .returned (bv (fr.getD (i % d) 0)) ∧ ∃ m, w' = w.drewN m := by
  have hm : i % d < d := Nat.mod_lt _ (by omega)
  obtain ⟨b, o, rfl, h3, h4⟩ := hc (i % d) (bv (fr.getD (i % d) 0)) (by rw [List.getElem?_map, List.getD_eq_getElem?_getD, List.getElem?_eq_getElem (by omega)]; rfl)
  have c0 := hf.cell (k := 0) rfl
  have c1 := ho.cell (k := 0) rfl
  have hd0 : ¬ (d : Int) = 0 := by omega
  have hd1 : ((d : Int) == 0) = false := beq_eq_false_iff_ne.2 hd0
  have htm : Int.tmod (i : Int) (d : Int) = ((i % d : Nat) : Int) := by rw [Int.tmod_eq_emod_of_nonneg (by omega)]; rfl
  have hmw : IntKind.i64.wrap (Int.tmod (i : Int) (d : Int)) = ((i % d : Nat) : Int) := by
    rw [htm, IntKind.wrap_i64]
    omega
  generalize (i % d) = x at *
  generalize bv (fr.getD x 0) = u at *
  clear hf ho hc hl hd hB
  go_enter Tryz.func126, Tryz.ntmps126
  go_wp2
  go_quiet (fail)
  go_wp2
  go_ret
  exact ⟨rfl, _, rfl⟩
set_option maxRecDepth 100000 in
set_option maxHeartbeats 2000000 in
theorem rggath_any (fb ob d n : Nat) (ad : Option Addr) (fr : List UInt8) (w : World) (hf : Blk w fb [.slice ad d d] 22) (ho : Blk w ob [.int .i64 (d : Int)] 3) (hc : CellsAt w ad (fr.map bv)) (hl : fr.length = d) (hd : 1 ≤ d) (hB : d ≤ 134217728) (hn : n ≤ 131072) :
    Calls Tryz.prog 125 #[.int .i64 (n : Int), .func (.func 126) #[] #[.pointer (some ⟨fb, 0, none⟩), .pointer (some ⟨ob, 0, none⟩)]] w fun e w' => ∃ v, e = .returned v ∧ w'.ownsRow w.heap.size 5 1 v n ((gathL fr d n).map bv) ∧ Below w.heap.size w w' := by
  have HC := hid (fun W (hb : Below w.heap.size w W) i => rgone_any fb ob d i ad fr W (hf.below hb hf.lt) (ho.below hb ho.lt) (hc.low hb) hl hd hB)
  clear hf ho hc hl hd hB
  go_enter Tryz.func125, Tryz.ntmps125
  go_wp2
  go_loopg [4, 7] n (fun gk o i wr => ∃ k : Nat, gk = n - k ∧ k ≤ n ∧ i = .int .i64 (k : Int) ∧ wr.ownsRow w.heap.size 5 1 o k ((gathL fr d k).map bv) ∧ Hid (Below w.heap.size w wr))
  case atStart => exact ⟨0, rfl, Nat.zero_le _, rfl, World.ownsRow_nil _ _ _ _, hid (Below.refl _ _)⟩
  case round =>
    obtain ⟨k, hgk, hk, rfl, hown, HB⟩ := hrel
    have HG := hid hgk
    obtain ⟨oa, oc, rfl⟩ := own_slice hown
    have HO := hid hown
    clear hgk hown
    by_cases hlt : k < n
    · have hltI : (k : Int) < (n : Int) := by omega
      have hw1 : IntKind.i64.wrap ((k : Int) + 1) = ((k + 1 : Nat) : Int) := by rw [IntKind.wrap_i64]; omega
      go_wp2_with (go_at_call 126; refine (HC.out _ HB.out k).mono ?_; refine Hid.out ?_)
      refine hid ?_
      rintro e w1 ⟨rfl, m, rfl⟩
      have HB1 := hid (below_drewN HB.out m)
      have HO1 : Hid ((wr.drewN m).ownsRow w.heap.size 5 1 (.slice oa k oc) k ((gathL fr d k).map bv)) := hid HO.out
      generalize wr.drewN m = w1 at *
      have hsu := gathL_succ fr d k
      generalize fr.getD (k % d) 0 = u at *
      obtain ⟨x, hx⟩ : ∃ x, bv u = .int .u8 x := ⟨_, rfl⟩
      rw [hx]
      dsimp only
      go_wp2_with (at_builtin; refine Hid.out ?_)
      refine hid ?_
      refine wpList_append1 rfl _ _ 22 rfl 5 _ 1 1 Tryz.underlying22 Tryz.info_byte rfl (by decide) (by decide) _ w.heap.size _ k _ [.int .u8 x] rfl ?hu rfl rfl (by exact HO1.out) ?hn (by exact HB1.out.size) ?hk
      case hu => simp [Value.oneCell']
      case hn => omega
      case hk =>
        intro v' w7 hown' hg
        have HB7 := hid (HB1.out.grown hg HB1.out.size (fun k hk => (HO1.out.lt k hk).1))
        have HO7 := hid hown'
        clear hown' hg
        go_wp2
        go_roundg (n - (k + 1))
        case rel =>
          refine ⟨k + 1, rfl, hlt, rfl, ?_, HB7⟩
          rw [hsu, List.map_append, List.map_cons, List.map_nil, hx]
          exact HO7.out
        case measure => have := HG.out; omega
    · obtain rfl : k = n := by omega
      go_wp2
      go_ret
      exact ⟨_, rfl, HO.out, HB.out⟩
end Go.Proofs.YtlgablepckmogaaGreat
