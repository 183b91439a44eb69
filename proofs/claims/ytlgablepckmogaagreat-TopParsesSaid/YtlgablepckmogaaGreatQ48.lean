/-
  The walks of layer 26 (exec), fifth part: pieces.
-/
import Derived.Test.YtlgablepckmogaaGreatQ47
namespace Go.Port
open Go.RowKit
/-- A piece of what an execution yields, as a value. -/
def pcv (p : (Option Addr × Nat) × List UInt8) : Value := .slice p.1.1 p.2.length p.1.2
theorem own_kindX {w : World} {B sz n : Nat} {e : TypeId} {v : Value} {xs : List Value} (h : w.ownsRow B e sz v n xs) (g : Nat) (hg : v.ownBlock = some g) : ∃ c fz, w.heap[g]? = some (.cells c e fz) := by
  rcases h.2 with ⟨h1, _⟩ | ⟨g2, cap, cur, h1, _, h4, _⟩
  · subst h1; cases hg
  · subst h1
    cases hg
    exact ⟨cur, _, h4⟩
theorem kind_ne {w : World} {b b' : Nat} {c c' : Array Value} {t t' : TypeId} {z z' : Nat × Nat} (h : w.heap[b]? = some (.cells c t z)) (h' : w.heap[b']? = some (.cells c' t' z')) (ht : t ≠ t') : b ≠ b' := fun e => by
  subst e
  rw [h] at h'
  injection h' with h'
  injection h' with _ h2
  exact ht h2
theorem RgAt.rowKind {tr te : TypeId} {base rb : Nat} {row : Option Nat} {size : Nat} {st : List UInt8} {w : World} (h : RgAt tr te base rb row size st w) : ∀ r, row = some r → ∃ c fz, w.heap[r]? = some (.cells c te fz) := by
  obtain ⟨al, cl, last, tot, h1, h2, h3, _⟩ := h.ex
  intro r e
  rw [← h3] at e
  exact own_kindX h2 r e
/-- A row of another kind grows: the execution stays. -/
theorem ExAt.grown {tr te tx : TypeId} {base rb xb : Nat} {row ob : Option Nat} {size : Nat} {st ll : List UInt8} {w w' : World} (h : ExAt tr te tx base rb xb row size st ll w) (hg : w.grownBy w' ob) {tq : TypeId} (hk : ∀ r, ob = some r → ∃ c fz, w.heap[r]? = some (.cells c tq fz)) (h1 : tq ≠ tr) (h2 : tq ≠ te) (h3 : tq ≠ tx) : ExAt tr te tx base rb xb row size st ll w' := by
  obtain ⟨la, lc, hx, p1, p2, p3, p4⟩ := h.ex
  have key : ∀ {b : Nat} {c : Array Value} {t : TypeId} {z : Nat × Nat}, w.heap[b]? = some (.cells c t z) → tq ≠ t → w'.heap[b]? = w.heap[b]? := fun {b c t z} hb ht =>
    hg.block b (Array.getElem?_eq_some_iff.1 hb).1 (fun e => by
      obtain ⟨c2, fz, h4⟩ := hk b e.symm
      exact kind_ne h4 hb ht rfl)
  refine ⟨h.ring.kept (fun k hk2 => ?_), ⟨la, lc, (key hx h3).trans hx, p1, p2, fun j u hu => ?_, fun x hx2 => ?_⟩, h.xb0, h.ne, h.ne2⟩
  · rcases hk2 with rfl | hk2
    · obtain ⟨lv, t, hb⟩ := h.ring.tot
      exact key hb h1
    · obtain ⟨c, fz, hb⟩ := h.ring.rowKind k hk2
      exact key hb h2
  · obtain ⟨b, o, rfl, h5, h6⟩ := p3 j u hu
    obtain ⟨_, _, _, cs, z, hb⟩ := p4 _ rfl
    refine ⟨b, o, rfl, Nat.lt_of_lt_of_le h5 hg.size, ?_⟩
    rw [← h6]
    exact World.cell?_of_block (key hb h2)
  · obtain ⟨q1, q2, q3, cs, z, hb⟩ := p4 _ hx2
    exact ⟨q1, q2, q3, cs, z, (key hb h2).trans hb⟩
theorem PcAt.grown {te : TypeId} {rb xb : Nat} {row ob : Option Nat} {w w' : World} {a : Option Addr} {c : Nat} {bs : List UInt8} (h : PcAt te rb xb row w a c bs) (hg : w.grownBy w' ob) {tq : TypeId} (hk : ∀ r, ob = some r → ∃ c fz, w.heap[r]? = some (.cells c tq fz)) (h2 : tq ≠ te) : PcAt te rb xb row w' a c bs := by
  obtain ⟨p1, p2, p3, p4⟩ := h
  have key : ∀ {b : Nat} {c : Array Value} {z : Nat × Nat}, w.heap[b]? = some (.cells c te z) → w'.heap[b]? = w.heap[b]? := fun {b c z} hb =>
    hg.block b (Array.getElem?_eq_some_iff.1 hb).1 (fun e => by
      obtain ⟨c2, fz, h4⟩ := hk b e.symm
      exact kind_ne h4 hb h2 rfl)
  refine ⟨p1, p2, fun j u hu => ?_, fun x hx2 => ?_⟩
  · obtain ⟨b, o, rfl, h5, h6⟩ := p3 j u hu
    obtain ⟨_, _, _, cs, z, hb⟩ := p4 _ rfl
    refine ⟨b, o, rfl, Nat.lt_of_lt_of_le h5 hg.size, ?_⟩
    rw [← h6]
    exact World.cell?_of_block (key hb)
  · obtain ⟨q1, q2, q3, cs, z, hb⟩ := p4 _ hx2
    exact ⟨q1, q2, q3, cs, z, (key hb).trans hb⟩
theorem TurnX.grown {rb xb : Nat} {r0 r1 ob : Option Nat} {w w1 w2 : World} (h : TurnX rb xb r0 r1 w w1) (hg : w1.grownBy w2 ob) (ho : ∀ r, ob = some r → w.heap.size ≤ r) : TurnX rb xb r0 r1 w w2 :=
  ⟨hg.os.trans h.os, hg.tape.trans h.tape, hg.output.trans h.output, Nat.le_trans h.size hg.size, fun k hk h1 h2 h3 => (hg.block k (Nat.lt_of_lt_of_le hk h.size) (fun e => by have := ho k e.symm; omega)).trans (h.block k hk h1 h2 h3), h.next⟩
theorem TurnX.own {rb xb : Nat} {r0 r1 : Option Nat} {w w1 : World} (h : TurnX rb xb r0 r1 w w1) {base sz n : Nat} {e : TypeId} {v : Value} {xs : List Value} (ho : w.ownsRow base e sz v n xs) (h1 : ∀ k, v.ownBlock = some k → k ≠ rb ∧ k ≠ xb ∧ some k ≠ r0) : w1.ownsRow base e sz v n xs :=
  own_kept ho fun k hk => h.block k (ho.lt k hk).2 (h1 k hk).1 (h1 k hk).2.1 (h1 k hk).2.2
/-- A row of another kind is none of the execution's blocks. -/
theorem ExAt.apart {tr te tx : TypeId} {base rb xb : Nat} {row : Option Nat} {size : Nat} {st ll : List UInt8} {w : World} (h : ExAt tr te tx base rb xb row size st ll w) {B sz n : Nat} {tq : TypeId} {v : Value} {xs : List Value} (ho : w.ownsRow B tq sz v n xs) (h1 : tq ≠ tr) (h2 : tq ≠ te) (h3 : tq ≠ tx) : ∀ k, v.ownBlock = some k → k ≠ rb ∧ k ≠ xb ∧ some k ≠ row := by
  intro k hk
  obtain ⟨c, fz, hb⟩ := own_kindX ho k hk
  obtain ⟨lv, t, hr⟩ := h.ring.tot
  obtain ⟨la, lc, hx, _⟩ := h.ex
  refine ⟨kind_ne hb hr h1, kind_ne hb hx h3, fun e => ?_⟩
  obtain ⟨c2, f2, hb2⟩ := h.ring.rowKind k e.symm
  exact kind_ne hb hb2 h2 rfl
theorem TurnX.below {rb xb : Nat} {r0 r1 : Option Nat} {w w1 : World} (h : TurnX rb xb r0 r1 w w1) {B : Nat} (hB : B ≤ w.heap.size) (h1 : B ≤ rb) (h3 : B ≤ xb) (h2 : ∀ r, r0 = some r → B ≤ r) : Below B w w1 :=
  ⟨h.os, h.tape, h.output, h.size, fun k hk => h.block k (by omega) (by omega) (by omega) (fun e => by have := h2 k e.symm; omega)⟩
theorem CellsAt.lowB {w w' : World} {a : Option Addr} {cs : List Value} {B : Nat} (h : CellsAt w a cs) (hb : Below B w w') (ha : ∀ x, a = some x → x.block < B) : CellsAt w' a cs := fun j u hu => by
  obtain ⟨b, o, rfl, h3, h4⟩ := h j u hu
  have h5 := ha _ rfl
  exact ⟨b, o, rfl, Nat.lt_of_lt_of_le h3 hb.size, (hb.cell (p := ⟨b, o + j, none⟩) h5).trans h4⟩
/-- A row of one's own is a piece. -/
theorem pc_own {te : TypeId} {rb xb : Nat} {row : Option Nat} {w : World} {B : Nat} {a : Option Addr} {c : Nat} {bs : List UInt8} {n : Nat} (h : w.ownsRow B te 1 (.slice a n c) n (bs.map bv)) (hn : bs.length = n) (hf : ∀ k, (Value.slice a n c).ownBlock = some k → k ≠ rb ∧ k ≠ xb ∧ some k ≠ row) : PcAt te rb xb row w a c bs := by
  have hc := (Sl.of_owns h).cells' rfl
  have hp := (Sl.of_owns h).cap rfl
  refine ⟨by omega, hp.2, hc, fun x hx => ?_⟩
  subst hx
  obtain ⟨c2, fz, hb⟩ := own_kindX h x.block rfl
  obtain ⟨q1, q2, q3⟩ := hf x.block rfl
  exact ⟨q1, q2, q3, c2, fz, hb⟩
end Go.Port
namespace Go.Proofs.YtlgablepckmogaaGreat
open Go.RowKit Go.Port
theorem info_bytesN : (Tryz.prog.info? 22).map (fun i => (i.zero, i.size, i.bytes)) = some (some (.slice none 0 0), 1, 24) := by kernel_rfl
/-- A sequence of a plan, executed at its place. -/
theorem xdoes_seq (base rb xb : Nat) (rk : Option Nat) (A D : List UInt8) (W : Nat) (l : List Sq) (k P : Nat) (s : Sq) (hs : l[k]? = some s) (hv : VerOk (A ++ D) A.length (W : Int) 0 l) (hP : endOf 0 (l.take k) = (P : Int)) (hD : D.length ≤ 1000) (hA : A.length ≤ 1000) :
    ∃ P2 : Nat, endOf 0 (l.take (k + 1)) = (P2 : Int) ∧ ∀ w, ExAt 66 5 106 base rb xb rk W (A ++ D.take P) (leftL D l k) w → Calls Tryz.prog 73 #[.pointer (some ⟨xb, 0, none⟩), .agg #[.int .i64 s.lit, .int .i64 s.len, .int .i64 s.off]] w fun e w' => ∃ (v : Value) (rk' : Option Nat) (pc : List UInt8), e = .returned v ∧ w'.ownsRow w.heap.size 5 1 v pc.length (pc.map bv) ∧ D.take P ++ pc = D.take P2 ∧ ExAt 66 5 106 base rb xb rk' W (A ++ D.take P2) (leftL D l (k + 1)) w' ∧ TurnX rb xb rk rk' w w' ∧ ∀ j, v.ownBlock = some j → j ≠ rb ∧ j ≠ xb ∧ some j ≠ rk' := by
  have hq := hv.drop l 0 k s hs
  have hts := endOf_snoc2 (l.take k) s
  rw [← take_snoc hs, hP] at hts
  have hst := leftL_step (D := D) hs
  rw [hP] at hst hq
  have hq2 := hq
  obtain ⟨q0, q1, q2, q3, q4, q5, q6, q7⟩ := hq
  have hb : ((A ++ D).length : Int) - (A.length : Int) = D.length := by rw [List.length_append]; omega
  obtain ⟨lit, len, off⟩ := s
  dsimp only at q0 q1 q2 q3 q4 q5 q6 hts hst ⊢
  obtain ⟨Li, rfl⟩ : ∃ n : Nat, lit = (n : Int) := ⟨lit.toNat, by omega⟩
  obtain ⟨Ln, rfl⟩ : ∃ n : Nat, len = (n : Int) := ⟨len.toNat, by omega⟩
  obtain ⟨Of, rfl⟩ : ∃ n : Nat, off = (n : Int) := ⟨off.toNat, by omega⟩
  have hcp := copy_is hq2 P Li Ln Of rfl rfl rfl rfl
  rw [show ((P : Int)).toNat = P from by omega, show ((Li : Int)).toNat = Li from by omega] at hst
  have hsl : ((D.drop P).take Li).length = Li := by rw [List.length_take, List.length_drop]; omega
  have htk : (leftL D l k).take Li = (D.drop P).take Li := by rw [hst]; exact List.take_left' hsl
  have hdr : (leftL D l k).drop Li = leftL D l (k + 1) := by rw [hst]; exact List.drop_left' hsl
  have hln : Li ≤ (leftL D l k).length := by rw [hst, List.length_append]; omega
  have hst1 : (A ++ D.take P) ++ (D.drop P).take Li = A ++ D.take (P + Li) := by rw [List.append_assoc, take_take_drop]
  have hst2 : (A ++ D.take (P + Li)) ++ (D.drop (P + Li)).take Ln = A ++ D.take (P + Li + Ln) := by rw [List.append_assoc, take_take_drop]
  have hsl2 : (A ++ D.take P).length = A.length + P := by rw [List.length_append, List.length_take]; omega
  have hl2 : ((D.drop (P + Li)).take Ln).length = Ln := by rw [List.length_take, List.length_drop]; omega
  refine ⟨P + Li + Ln, by rw [hts]; omega, fun w h => ?_⟩
  have hd := xdoes_ok base rb xb rk W Li Ln Of (A ++ D.take P) (leftL D l k) w h hln (by omega) (by omega) (by omega) (by omega) (by omega) (by omega)
  rw [htk, hst1, hcp, hst2, hdr] at hd
  refine hd.mono ?_
  rintro e w' ⟨v, rk', rfl, h1, h2, h3, h4⟩
  refine ⟨v, rk', (D.drop P).take Li ++ (D.drop (P + Li)).take Ln, rfl, ?_, ?_, h2, h3, h4⟩
  · rw [List.length_append, hsl, hl2]
    exact h1
  · rw [← List.append_assoc, take_take_drop, take_take_drop]
set_option maxRecDepth 100000 in
set_option maxHeartbeats 8000000 in
theorem xpieces_ok (base rb xb : Nat) (row : Option Nat) (A D : List UInt8) (W : Nat) (l : List Sq) (al : Option Addr) (cl : Nat) (w : World) (h : ExAt 66 5 106 base rb xb row W A (litsS D l) w) (hv : VerOk (A ++ D) A.length (W : Int) 0 l) (hD : D.length ≤ 1000) (hA : A.length ≤ 1000) (hl : l.length ≤ 1000) (hlc : l.length ≤ cl) (hc : CellsAt w al (l.flatMap sqc)) (hal : 0 < l.length → ∀ x, al = some x → x.block < base) :
    Calls Tryz.prog 51 #[.pointer (some ⟨xb, 0, none⟩), .slice al l.length cl] w fun e w' => ∃ (v : Value) (ps : List ((Option Addr × Nat) × List UInt8)) (row' : Option Nat), e = .returned v ∧ w'.ownsRow w.heap.size 22 1 v ps.length (ps.map pcv) ∧ (∀ p ∈ ps, PcAt 5 rb xb row' w' p.1.1 p.1.2 p.2) ∧ ps.flatMap (·.2) = D ∧ ps.length ≤ 1001 ∧ RgAt 66 5 base rb row' W (A ++ D) w' ∧ TurnX rb xb row row' w w' := by
  have HC := hid hc
  have HV := hid hv
  have HAl := hid hal
  have HN := hid (And.intro hD (And.intro hA (And.intro hl hlc)))
  have HBw := hid h.ring.bw
  have HR0 := hid (And.intro h.ring.rb0 (And.intro h.xb0 (fun r e => (h.ring.row0 r e).1)))
  have HE := hid h
  clear hc hv hal hD hA hl h
  go_enter Tryz.func51, Tryz.ntmps51
  go_wp2
  go_loopg [4, 9] l.length (fun gk o i wr => ∃ (k P : Nat) (ps : List ((Option Addr × Nat) × List UInt8)) (rk : Option Nat), gk = l.length - k ∧ k ≤ l.length ∧ i = .int .i64 (k : Int) ∧ Hid (endOf 0 (l.take k) = (P : Int) ∧ ps.length = k ∧ ps.flatMap (·.2) = D.take P) ∧ wr.ownsRow w.heap.size 22 1 o ps.length (ps.map pcv) ∧ Hid (∀ p ∈ ps, PcAt 5 rb xb rk wr p.1.1 p.1.2 p.2) ∧ Hid (ExAt 66 5 106 base rb xb rk W (A ++ D.take P) (leftL D l k) wr) ∧ Hid (TurnX rb xb row rk w wr))
  case atStart => exact ⟨0, 0, [], row, rfl, Nat.zero_le _, rfl, hid ⟨rfl, rfl, rfl⟩, World.ownsRow_nil _ _ _ _, hid (fun p hp => by cases hp), hid (by rw [leftL_zero, List.take_zero, List.append_nil]; exact HE.out), hid (TurnX.refl _ _ _ _)⟩
  case round =>
    obtain ⟨k, P, ps, rk, hgk, hk, rfl, HP, hown, HPs, HX, HT⟩ := hrel
    have HG := hid hgk
    obtain ⟨oa, oc, rfl⟩ := own_slice hown
    have HO := hid hown
    have HKn := hid hk
    clear hgk hown
    by_cases hlt : k < l.length
    · obtain ⟨s, hs⟩ : ∃ s, l[k]? = some s := ⟨l[k], by simp [hlt]⟩
      obtain ⟨P2, hP2, hdo⟩ := xdoes_seq base rb xb rk A D W l k P s hs HV.out HP.out.1 HN.out.1 HN.out.2.1
      have HP2 := hid hP2
      have HDo := hid hdo
      have hb := HT.out.below HBw.out HR0.out.1 HR0.out.2.1 HR0.out.2.2
      have hcw := HC.out.lowB hb (HAl.out (Nat.lt_of_le_of_lt (Nat.zero_le _) hlt))
      obtain ⟨lit, len, off⟩ := s
      obtain ⟨bl, o, rfl, hbl, y0⟩ := hcw (k * 3 + 0) (.int .i64 lit) (by rw [sqc_get hs 0 (by omega)]; rfl)
      obtain ⟨_, _, e, _, y1⟩ := hcw (k * 3 + 1) (.int .i64 len) (by rw [sqc_get hs 1 (by omega)]; rfl)
      cases e
      obtain ⟨_, _, e, _, y2⟩ := hcw (k * 3 + 2) (.int .i64 off) (by rw [sqc_get hs 2 (by omega)]; rfl)
      cases e
      rw [Nat.add_zero] at y0
      rw [← Nat.add_assoc] at y1 y2
      have hkI : (k : Int) < (l.length : Int) := by omega
      have hbn := below_new wr (.cells #[.int .i64 lit, .int .i64 len, .int .i64 off] 43)
      have HS1 := hid (Blk.new wr [.int .i64 lit, .int .i64 len, .int .i64 off] 43)
      have HX1 := hid (HX.out.below hbn)
      have HT1 := hid (HT.out.trans (TurnX.of_below hbn))
      have HO1 := hid (own_low HO.out hbn)
      have HPs1 := hid (fun p hp => (HPs.out p hp).turn (TurnX.of_below (rb := rb) (xb := xb) (row := rk) hbn))
      have HLt := hid hlt
      clear hP2 hdo hb hcw hbl hs hk hbn hlt
      dsimp only at HDo
      go_upto_region 4 with fail
      obtain ⟨sb, hsb⟩ : ∃ sb, sb = wr.heap.size := ⟨_, rfl⟩
      rw [← hsb] at HS1 ⊢
      clear hsb y0 y1 y2 HX HT HO HPs
      generalize wr.alloc (.cells #[.int .i64 lit, .int .i64 len, .int .i64 off] 43) = w1 at *
      have c0 := HS1.out.cell (k := 0) rfl
      have c1 := HS1.out.cell (k := 1) rfl
      have c2 := HS1.out.cell (k := 2) rfl
      go_wp2_with (go_at_call 73; refine (HDo.out w1 HX1.out).mono ?_; refine Hid.out ?_)
      refine hid ?_
      rintro e w2 ⟨v, rk2, pc, rfl, hpo, hpd, hX2, hT2, hpf⟩
      obtain ⟨pa, pcap, rfl⟩ := own_slice hpo
      have HPc := hid (pc_own hpo rfl hpf)
      have HO2 := hid (hT2.own HO1.out (HX1.out.apart HO1.out (by decide) (by decide) (by decide)))
      have HX2 := hid hX2
      have HT2 := hid (HT1.out.trans hT2)
      have HPs2 := hid (fun p hp => (HPs1.out p hp).turn hT2)
      have HPd := hid hpd
      clear hpo hpf hX2 hT2 hpd HX1 HT1 HO1 HPs1 HDo HS1 c0 c1 c2
      dsimp only
      go_wp2_with (at_builtin; refine Hid.out ?_)
      refine hid ?_
      refine wpList_append1 rfl _ _ 68 rfl 22 _ 1 24 Tryz.underlying68 info_bytesN rfl (by decide) (by decide) w2 w.heap.size _ ps.length (ps.map pcv) [.slice pa pc.length pcap] rfl ?hu rfl rfl (by exact HO2.out) ?hn (by exact HT2.out.size) ?hk
      case hu => simp [Value.oneCell']
      case hn => have := HP.out.2.1; have := HKn.out; have := HN.out.2.2.1; omega
      case hk =>
        intro v' w4 hown' hg
        have hkd := fun r e => own_kindX HO2.out r e
        have HX4 := hid (HX2.out.grown hg hkd (by decide) (by decide) (by decide))
        have HT4 := hid (HT2.out.grown hg (fun r e => (HO2.out.lt r e).1))
        have HPs4 := hid (fun p hp => (HPs2.out p hp).grown hg hkd (by decide))
        have HPc4 := hid (HPc.out.grown hg hkd (by decide))
        have HO4 := hid hown'
        have hw1 : IntKind.i64.wrap ((k : Int) + 1) = ((k + 1 : Nat) : Int) := by rw [IntKind.wrap_i64]; have := HN.out.2.2.1; have := HKn.out; omega
        clear hown' hg hkd HX2 HT2 HPs2 HPc HO2
        go_wp2
        go_roundg (l.length - (k + 1))
        case rel =>
          refine ⟨k + 1, P2, ps ++ [((pa, pcap), pc)], rk2, rfl, HLt.out, rfl, hid ⟨HP2.out, by rw [List.length_append, HP.out.2.1]; rfl, ?_⟩, ?_, hid (fun p hp => ?_), HX4, HT4⟩
          · rw [List.flatMap_append, HP.out.2.2, List.flatMap_cons, List.flatMap_nil, List.append_nil]
            exact HPd.out
          · rw [List.length_append, List.map_append]
            exact HO4.out
          · rcases List.mem_append.1 hp with hp | hp
            · exact HPs4.out p hp
            · obtain rfl := List.mem_singleton.1 hp
              exact HPc4.out
        case measure => have := HG.out; have := HLt.out; omega
    · obtain rfl : k = l.length := by omega
      obtain ⟨hP1, hP2, hP3⟩ := HP.out
      rw [List.take_length] at hP1
      have hPD : P ≤ D.length := by have := (ver_end HV.out (Nat.le_trans HN.out.1 (by decide))).2.2; omega
      have hll : leftL D l l.length = D.drop P := by rw [leftL_end, hP1]; rfl
      have HX1 : Hid (ExAt 66 5 106 base rb xb rk W (A ++ D.take P) (D.drop P) wr) := hid (by have := HX.out; rwa [hll] at this)
      obtain ⟨la, lc, hx, hpc⟩ := HX1.out.ex
      have c1 := hx.cell (k := 1) rfl
      have HPD := hid hPD
      have htd := List.take_append_drop P D
      generalize hRR : D.drop P = R at *
      by_cases hz : R.length = 0
      · have hD0 : R = [] := List.eq_nil_of_length_eq_zero hz
        have hDP : D.take P = D := by rwa [hD0, List.append_nil] at htd
        have hR := HX1.out.ring
        rw [hDP] at hR
        have HR := hid hR
        have HF := hid (show ps.flatMap (·.2) = D by rw [hP3, hDP])
        have HPl := hid hP2
        have hgt : ¬ (0 : Int) < (R.length : Int) := by omega
        clear hP1 hP2 hP3 hPD hll hx hpc hz hD0 hDP hR HX HX1 hRR htd
        go_wp2
        go_ret
        refine ⟨_, rfl, ps, ?_, rk, ?_, ?_, ?_, ?_, ?_⟩
        · exact HO.out
        · exact fun a b c hp => HPs.out ((a, b), c) hp
        · exact HF.out
        · have := HPl.out; have := HN.out.2.2.1; omega
        · exact HR.out
        · exact HT.out
      · have hgt : (0 : Int) < (R.length : Int) := by omega
        have hln : R.length = D.length - P := by rw [← hRR, List.length_drop]
        have hsl2 : (A ++ D.take P).length = A.length + P := by rw [List.length_append, List.length_take]; omega
        have HTk := hid (xtakes_ok base rb xb rk W R.length (A ++ D.take P) R wr HX1.out (Nat.le_refl _) (by have := HN.out; omega))
        rw [List.take_length, List.append_assoc, htd] at HTk
        have HPl := hid (And.intro hP2 (And.intro hP3 htd))
        clear hP1 hP2 hP3 hPD hll hpc hz hsl2 HX hln hRR htd hx
        go_wp2_with (go_at_call 74; refine HTk.out.mono ?_; refine Hid.out ?_)
        refine hid ?_
        rintro e w2 ⟨pa, rk2, rfl, hX2, hPc2, hT2⟩
        have HO2 := hid (hT2.own HO.out (HX1.out.apart HO.out (by decide) (by decide) (by decide)))
        have HX2 := hid hX2
        have HT2 := hid (HT.out.trans hT2)
        have HPs2 := hid (fun p hp => (HPs.out p hp).turn hT2)
        have HPc := hid hPc2
        clear hX2 hPc2 hT2 HX1 HT HO HPs HTk c1
        dsimp only
        go_wp2_with (at_builtin; refine Hid.out ?_)
        refine hid ?_
        refine wpList_append1 rfl _ _ 68 rfl 22 _ 1 24 Tryz.underlying68 info_bytesN rfl (by decide) (by decide) w2 w.heap.size _ ps.length (ps.map pcv) [.slice pa R.length R.length] rfl ?hu rfl rfl (by exact HO2.out) ?hn (by exact HT2.out.size) ?hk
        case hu => simp [Value.oneCell']
        case hn => have := HPl.out.1; have := HN.out.2.2.1; omega
        case hk =>
          intro v' w4 hown' hg
          have hkd := fun r e => own_kindX HO2.out r e
          have HX4 := hid (HX2.out.grown hg hkd (by decide) (by decide) (by decide))
          have HT4 := hid (HT2.out.grown hg (fun r e => (HO2.out.lt r e).1))
          have HPs4 := hid (fun p hp => (HPs2.out p hp).grown hg hkd (by decide))
          have HPc4 := hid (HPc.out.grown hg hkd (by decide))
          have HO4 := hid hown'
          clear hown' hg hkd HX2 HT2 HPs2 HPc HO2
          go_wp2
          go_ret
          refine ⟨_, ps ++ [((pa, R.length), R)], rk2, rfl, ?_, fun p hp => ?_, ?_, ?_, HX4.out.ring, HT4.out⟩
          · rw [List.length_append, List.map_append]
            exact HO4.out
          · rcases List.mem_append.1 hp with hp | hp
            · exact HPs4.out p hp
            · obtain rfl := List.mem_singleton.1 hp
              exact HPc4.out
          · rw [List.flatMap_append, HPl.out.2.1, List.flatMap_cons, List.flatMap_nil, List.append_nil]
            exact HPl.out.2.2
          · rw [List.length_append, HPl.out.1]
            have := HN.out.2.2.1
            simp only [List.length_cons, List.length_nil]
            omega
end Go.Proofs.YtlgablepckmogaaGreat
