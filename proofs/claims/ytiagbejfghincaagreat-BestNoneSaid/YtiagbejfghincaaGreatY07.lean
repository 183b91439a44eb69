/-
  Plain laws on a map with integer elements that the call has made: block b answers as F. Over any program.
  The walks of layer 32 (price), second part: the shapes of the kinds.
-/
import Derived.Test.YtiagbejfghincaaGreatY02
import Derived.Test.YtiagbejfghincaaGreatY03
import Derived.Test.YtiagbejfghincaaGreatY04
import Derived.Test.YtiagbejfghincaaGreatY05
import Derived.Test.YtiagbejfghincaaGreatY06
import Derived.Maps.Keyed
import Derived.DeepKeys5
import Derived.WideKeyEntry
namespace Go.Port
open Go.RowKit Go.MapKept Go.ChangeMaps
open Go.WideMaps (KeyLaw)
open Go.WideElems (findIdx_born findIdx_arr modify_last)
section
variable {κ : Type}
def upd [DecidableEq κ] (F : κ → Option Int) (k : κ) (x : Int) (v : κ) : Option Int := if v = k then some x else F v
theorem upd_same [DecidableEq κ] (F : κ → Option Int) (k : κ) (x : Int) : upd F k x k = some x := by unfold upd; simp
theorem upd_other [DecidableEq κ] {F : κ → Option Int} {k v : κ} {x : Int} (h : v ≠ k) : upd F k x v = F v := by unfold upd; simp [h]
/-- The entries answer as F. -/
structure KEnt (kv : κ → Value) (es : List MapEntry) (clock : Nat) (F : κ → Option Int) : Prop where
  val : ∀ e ∈ es, ∃ c x, e.key = kv c ∧ e.val = .int .i64 x ∧ F c = some x
  has : ∀ c x, F c = some x → ∃ e ∈ es, e.key = kv c
  born : ∀ e ∈ es, e.born < clock
  borns : (es.map (·.born)).Nodup
  keys : (es.map (·.key)).Nodup
/-- Block b is a map that answers as F. -/
def KMap (kv : κ → Value) (w : World) (b : Nat) (F : κ → Option Int) : Prop :=
  ∃ es clock, w.heap[b]? = some (.map es clock) ∧ KEnt kv es.toList clock F
variable {P : Program} {k t e : TypeId} {w w' : World} {b : Nat} {kv : κ → Value} {F : κ → Option Int}
theorem KMap.lt (h : KMap kv w b F) : b < w.heap.size := by
  obtain ⟨es, clock, h1, _⟩ := h
  exact (Array.getElem?_eq_some_iff.1 h1).1
theorem KMap.same (h : KMap kv w b F) (hb : w'.heap[b]? = w.heap[b]?) : KMap kv w' b F := by
  obtain ⟨es, clock, h1, h2⟩ := h
  exact ⟨es, clock, hb.trans h1, h2⟩
theorem KMap.low (h : KMap kv w b F) (hb : Below w.heap.size w w') : KMap kv w' b F := h.same (hb.block b h.lt)
theorem KMap.grown {row : Option Nat} (h : KMap kv w b F) (hg : w.grownBy w' row) (hne : some b ≠ row) : KMap kv w' b F := h.same (hg.block b h.lt hne)
theorem KMap.set (h : KMap kv w b F) {a : Addr} (u : Value) (hne : a.block ≠ b) : KMap kv (w.setCell a u) b F := h.same (Below.heap_setCell w a u b (Ne.symm hne))
theorem KMap.new (kv : κ → Value) (w : World) : KMap kv (w.alloc (.map #[] 0)) w.heap.size (fun _ => none) :=
  ⟨#[], 0, heap_alloc_new w _, by simp, (fun v x h => by cases h), by simp, by simp, by simp⟩
theorem KEnt.keyed {es : List MapEntry} {clock : Nat} (hE : KEnt kv es clock F) (hk : ∀ c, ∃ l, keyOf P k (kv c) = some l) : ∀ e ∈ es, ∃ l, keyOf P k e.key = some l := fun e he => by
  obtain ⟨c, _, h, _⟩ := hE.val e he
  rw [h]
  exact hk c
theorem KMap.look (h : KMap kv w b F) (K : KeyLaw P k) (ht : P.underlying t = some (.map k e)) (hz : ∀ u : World, (zeroValue e).run P u = .ok (.int .i64 0) u) (hk : ∀ c, ∃ l, keyOf P k (kv c) = some l) (hi : ∀ {c c'}, kv c = kv c' → c = c') (key : κ) (c : Bool) :
    (Instr.lookup t (.map (some b)) (kv key) c).run P w = .ok (if c then .tuple #[.int .i64 ((F key).getD 0), .bool (F key).isSome] else .int .i64 ((F key).getD 0)) w := by
  obtain ⟨es, clock, hb, hE⟩ := h
  obtain ⟨kl, hkey⟩ := hk key
  rcases K.find w hkey es.toList (hE.keyed hk) with ⟨h1, h2⟩ | ⟨j, e0, h1, h2, h3⟩
  · have hF : F key = none := by
      cases hf : F key with
      | none => rfl
      | some x =>
        obtain ⟨e0, he, hk⟩ := hE.has key x hf
        exact absurd hk (h2 e0 he)
    rw [hF]
    simp [Instr.lookup, run_underlying ht, MapKept.run_getObj_map hb, K.check w _ hkey, h1, hz, Result.andThen]
  · obtain ⟨c0, x, hc, hv, hf⟩ := hE.val e0 (List.mem_of_getElem? h2)
    obtain rfl := hi (hc.symm.trans h3)
    rw [hf]
    simp [Instr.lookup, run_underlying ht, MapKept.run_getObj_map hb, K.check w _ hkey, h1, hv, Result.andThen]
variable [DecidableEq κ]
theorem modify_eq_set' {α : Type} (f : α → α) : ∀ (l : List α) (j : Nat) (a : α), l[j]? = some a → l.modify j f = l.set j (f a)
  | [], _, _, h => by simp at h
  | b :: r, 0, a, h => by simp at h; subst h; rfl
  | b :: r, j + 1, a, h => by simp at h; simp [List.modify_succ_cons, modify_eq_set' f r j a h]
theorem KEnt.push {es : List MapEntry} {clock : Nat} (hE : KEnt kv es clock F) {key : κ} (hn : ∀ x ∈ es, x.key ≠ kv key) (x : Int) :
    KEnt kv (es ++ [⟨kv key, .int .i64 x, clock⟩]) (clock + 1) (upd F key x) := by
  refine ⟨fun e he => ?_, fun v y hv => ?_, fun e he => ?_, ?_, ?_⟩
  · rcases List.mem_append.1 he with he | he
    · obtain ⟨c, y, h0, h1, h2⟩ := hE.val e he
      exact ⟨c, y, h0, h1, by rw [upd_other (fun hc => hn e he (by rw [h0, hc]))]; exact h2⟩
    · obtain rfl := List.mem_singleton.1 he
      exact ⟨key, x, rfl, rfl, upd_same _ _ _⟩
  · by_cases hk : v = key
    · exact ⟨⟨kv key, .int .i64 x, clock⟩, by simp, by rw [hk]⟩
    · rw [upd_other hk] at hv
      obtain ⟨e, he, h1⟩ := hE.has v y hv
      exact ⟨e, List.mem_append_left _ he, h1⟩
  · rcases List.mem_append.1 he with he | he
    · have := hE.born e he
      omega
    · obtain rfl := List.mem_singleton.1 he
      exact Nat.lt_succ_self _
  · rw [List.map_append, List.nodup_append]
    refine ⟨hE.borns, by simp, fun a ha c hc => ?_⟩
    obtain ⟨e, he, rfl⟩ := List.mem_map.1 ha
    simp only [List.map_cons, List.map_nil, List.mem_singleton] at hc
    subst hc
    have := hE.born e he
    omega
  · rw [List.map_append, List.nodup_append]
    refine ⟨hE.keys, by simp, fun a ha c hc => ?_⟩
    obtain ⟨e, he, rfl⟩ := List.mem_map.1 ha
    simp only [List.map_cons, List.map_nil, List.mem_singleton] at hc
    subst hc
    exact hn e he
theorem KEnt.put {es : List MapEntry} {clock : Nat} (hE : KEnt kv es clock F) (hi : ∀ {c c'}, kv c = kv c' → c = c') {j : Nat} {e0 : MapEntry} (hj : es[j]? = some e0) {key : κ} (h0 : e0.key = kv key) (x : Int) :
    KEnt kv (es.set j ⟨e0.key, .int .i64 x, e0.born⟩) clock (upd F key x) := by
  have hlt := (List.getElem?_eq_some_iff.1 hj).1
  have hm0 : e0 ∈ es := List.mem_of_getElem? hj
  have hmap : ∀ {β : Type} (f : MapEntry → β), f ⟨e0.key, .int .i64 x, e0.born⟩ = f e0 → (es.set j ⟨e0.key, .int .i64 x, e0.born⟩).map f = es.map f := fun f hf => by
    rw [List.map_set, hf]
    apply List.ext_getElem?
    intro i
    by_cases hi : j = i
    · subst hi
      rw [List.getElem?_set_self (by simpa using hlt), List.getElem?_map, hj]
      rfl
    · rw [List.getElem?_set_ne hi]
  have hmem : ∀ e ∈ es.set j ⟨e0.key, .int .i64 x, e0.born⟩, e = ⟨e0.key, .int .i64 x, e0.born⟩ ∨ (e ∈ es ∧ e.key ≠ e0.key) := fun e he => by
    obtain ⟨i, hi⟩ := List.mem_iff_getElem?.1 he
    by_cases hij : j = i
    · subst hij
      rw [List.getElem?_set_self hlt] at hi
      exact .inl (Option.some.inj hi).symm
    · rw [List.getElem?_set_ne hij] at hi
      refine .inr ⟨List.mem_of_getElem? hi, fun hk => hij ?_⟩
      have h1 : (es.map (·.key))[i]? = some e0.key := by rw [List.getElem?_map, hi]; simp [hk]
      have h2 : (es.map (·.key))[j]? = some e0.key := by rw [List.getElem?_map, hj]; rfl
      exact (List.getElem?_inj (by simpa using hlt) hE.keys).1 (h2.trans h1.symm)
  refine ⟨fun e he => ?_, fun v y hv => ?_, fun e he => ?_, ?_, ?_⟩
  · rcases hmem e he with rfl | ⟨he, hk⟩
    · exact ⟨key, x, h0, rfl, upd_same _ _ _⟩
    · obtain ⟨c, y, h4, h1, h2⟩ := hE.val e he
      exact ⟨c, y, h4, h1, by rw [upd_other (fun hc => hk (by rw [h4, hc, h0]))]; exact h2⟩
  · by_cases hk : v = key
    · exact ⟨⟨e0.key, .int .i64 x, e0.born⟩, List.mem_of_getElem? (List.getElem?_set_self hlt), by rw [hk]; exact h0⟩
    · rw [upd_other hk] at hv
      obtain ⟨e, he, h1⟩ := hE.has v y hv
      obtain ⟨i, hi'⟩ := List.mem_iff_getElem?.1 he
      refine ⟨e, List.mem_of_getElem? (i := i) ?_, h1⟩
      rw [List.getElem?_set_ne (fun hij => ?_)]
      · exact hi'
      · subst hij
        rw [hj] at hi'
        cases hi'
        exact hk (hi (h1.symm.trans h0))
  · rcases hmem e he with rfl | ⟨he, _⟩
    · exact hE.born e0 hm0
    · exact hE.born e he
  · rw [hmap _ rfl]; exact hE.borns
  · rw [hmap _ rfl]; exact hE.keys
theorem grown_setBlock {w : World} {b : Nat} {o : Obj} {es : Array MapEntry} {clock : Nat} (hb : w.heap[b]? = some (.map es clock)) : w.grownBy (setBlock w b o) (some b) :=
  ⟨rfl, rfl, rfl, by simp [setBlock], fun i _ hi => heap_setBlock_other hb _ (fun e => hi (by rw [e]))⟩
theorem KMap.store (h : KMap kv w b F) (K : KeyLaw P k) (ht : P.underlying t = some (.map k e)) (hk : ∀ c, ∃ l, keyOf P k (kv c) = some l) (hi : ∀ {c c'}, kv c = kv c' → c = c') (key : κ) (x : Int) :
    ∃ w', (Instr.mapUpdate t (.map (some b)) (kv key) (.int .i64 x)).run P w = .ok () w' ∧ KMap kv w' b (upd F key x) ∧ w.grownBy w' (some b) := by
  obtain ⟨es, clock, hb, hE⟩ := h
  obtain ⟨kl, hkey⟩ := hk key
  rcases K.find w hkey es.toList (hE.keyed hk) with ⟨h1, h2⟩ | ⟨j, e0, h1, h2, h3⟩
  · refine ⟨setBlock w b (.map (es.push ⟨kv key, .int .i64 x, clock⟩) (clock + 1)), ?_, ⟨_, _, heap_setBlock_same hb _, ?_⟩, grown_setBlock hb⟩
    · simp [Instr.mapUpdate, run_underlying ht, MapKept.run_getObj_map hb, K.check w false hkey, h1, MapKept.run_setObj_map _ hb, Result.andThen, setBlock]
    · rw [Array.toList_push]
      exact hE.push h2 x
  · have hj : es[j]? = some e0 := by simpa using h2
    refine ⟨setBlock w b (.map (es.modify j (fun e' => { e' with key := kv key, val := .int .i64 x })) clock), ?_, ⟨_, _, heap_setBlock_same hb _, ?_⟩, grown_setBlock hb⟩
    · simp [Instr.mapUpdate, run_underlying ht, MapKept.run_getObj_map hb, K.check w false hkey, h1, hj, h3, K.stays w hkey, MapKept.run_setObj_map _ hb, Result.andThen, setBlock]
    · rw [Array.toList_modify, modify_eq_set' _ _ _ _ h2]
      have := hE.put hi h2 h3 x
      rw [h3] at this
      exact this
theorem KMap.entry (h : KMap kv w b F) (K : KeyLaw P k) (ht : P.underlying t = some (.map k e)) (hz : ∀ u : World, (zeroValue e).run P u = .ok (.int .i64 0) u) (hk : ∀ c, ∃ l, keyOf P k (kv c) = some l) (hi : ∀ {c c'}, kv c = kv c' → c = c') (key : κ) :
    ∃ st w1, (Instr.mapEntry t (.map (some b)) (kv key)).run P w = .ok (.tuple #[.int .i64 ((F key).getD 0), .int .i64 (st : Nat)]) w1 ∧ w.grownBy w1 (some b) ∧ KMap kv w1 b (upd F key ((F key).getD 0)) ∧
      ∀ (w2 : World) (x : Int), w2.heap[b]? = w1.heap[b]? → ∃ w3, (Instr.entryStore t (.map (some b)) (.int .i64 (st : Nat)) (.int .i64 x)).run P w2 = .ok () w3 ∧ KMap kv w3 b (upd F key x) ∧ w2.grownBy w3 (some b) := by
  obtain ⟨es, clock, hb, hE⟩ := h
  obtain ⟨kl, hkey⟩ := hk key
  rcases K.find w hkey es.toList (hE.keyed hk) with ⟨h1, h2⟩ | ⟨j, e0, h1, h2, h3⟩
  · have hF : F key = none := by
      cases hf : F key with
      | none => rfl
      | some x =>
        obtain ⟨e0, he, hk⟩ := hE.has key x hf
        exact absurd hk (h2 e0 he)
    refine ⟨clock, setBlock w b (.map (es.push ⟨kv key, .int .i64 0, clock⟩) (clock + 1)), ?_, grown_setBlock hb, ⟨_, _, heap_setBlock_same hb _, (by rw [hF, Array.toList_push]; exact hE.push h2 0)⟩, fun w2 x hw2 => ?_⟩
    · rw [hF]
      simp [Instr.mapEntry, run_underlying ht, MapKept.run_getObj_map hb, K.check w false hkey, h1, hz, MapKept.run_setObj_map _ hb, Result.andThen, setBlock, goInt]
    · have hw2' := hw2.trans (heap_setBlock_same hb _)
      refine ⟨setBlock w2 b (.map (es.push ⟨kv key, .int .i64 x, clock⟩) (clock + 1)), ?_, ⟨_, _, heap_setBlock_same hw2' _, ?_⟩, grown_setBlock hw2'⟩
      · have hidx : (es.push ⟨kv key, .int .i64 0, clock⟩).findIdx? (fun e => ((e.born : Nat) : Int) == ((clock : Nat) : Int)) = some es.size := by
          rw [findIdx_arr]
          exact findIdx_born (l := (es.push ⟨kv key, .int .i64 0, clock⟩).toList) (j := es.size) (e0 := ⟨kv key, .int .i64 0, clock⟩) (by
            rw [Array.toList_push]
            exact (hE.push h2 0).borns) (by simp)
        have hmod : (es.push ⟨kv key, .int .i64 0, clock⟩).modify es.size (fun e => { e with val := .int .i64 x }) = es.push ⟨kv key, .int .i64 x, clock⟩ := by
          apply Array.ext'
          rw [Array.toList_modify, Array.toList_push, Array.toList_push, ← Array.length_toList, modify_last]
        simp [Instr.entryStore, MapKept.run_getObj_map hw2', asInt, asIntOf, hidx, hmod, MapKept.run_setObj_map _ hw2', Result.andThen, setBlock]
      · rw [Array.toList_push]
        exact hE.push h2 x
  · have hj : es[j]? = some e0 := by simpa using h2
    obtain ⟨c0, y, hc, hv, hf⟩ := hE.val e0 (List.mem_of_getElem? h2)
    obtain rfl := hi (hc.symm.trans h3)
    have hsame : es.modify j (fun e => { e with key := kv c0 }) = es := by
      apply Array.ext'
      rw [Array.toList_modify, modify_eq_set' _ _ _ _ h2]
      have : ({ e0 with key := kv c0 } : MapEntry) = e0 := by rw [← h3]
      rw [this]
      exact WideElems.set_self _ _ _ h2
    refine ⟨e0.born, setBlock w b (.map es clock), ?_, grown_setBlock hb, ⟨_, _, heap_setBlock_same hb _, ?_⟩, fun w2 x hw2 => ?_⟩
    · rw [hf]
      simp [Instr.mapEntry, run_underlying ht, MapKept.run_getObj_map hb, K.check w false hkey, h1, hj, h3, hv, K.stays w hkey, hsame, MapKept.run_setObj_map _ hb, Result.andThen, setBlock, goInt]
    · have := hE.put hi h2 h3 y
      rw [show (⟨e0.key, .int .i64 y, e0.born⟩ : MapEntry) = e0 from by rw [← hv], WideElems.set_self _ _ _ h2] at this
      rw [hf]
      exact this
    · have hw2' := hw2.trans (heap_setBlock_same hb _)
      refine ⟨setBlock w2 b (.map (es.modify j (fun e => { e with val := .int .i64 x })) clock), ?_, ⟨_, _, heap_setBlock_same hw2' _, ?_⟩, grown_setBlock hw2'⟩
      · have hidx : es.findIdx? (fun e => ((e.born : Nat) : Int) == ((e0.born : Nat) : Int)) = some j := by
          rw [findIdx_arr]
          exact findIdx_born hE.borns h2
        simp [Instr.entryStore, MapKept.run_getObj_map hw2', asInt, asIntOf, hidx, MapKept.run_setObj_map _ hw2', Result.andThen, setBlock]
      · rw [Array.toList_modify, modify_eq_set' _ _ _ _ h2]
        exact hE.put hi h2 h3 x
end
end Go.Port
namespace Go.Proofs.YtiagbejfghincaaGreat
open Go.RowKit Go.Port Go.MapKept Go.ChangeMaps
/-- The function that tells a kind's extra bits. -/
def fbits (k : Nat) : FuncId := if k = 0 then 139 else if k = 2 then 141 else 140
theorem fbits_enter (k : Nat) (args : Array Value) (w : World) : (callFunc (fbits k) args).run Tryz.prog w = .ok (.enter (fbits k) args) w := by
  unfold fbits
  split
  · kernel_rfl
  · split <;> kernel_rfl
theorem prnone_any (c : Int) (w : World) :
    Calls Tryz.prog 139 #[.int .i64 c] w fun e w' => e = .returned (.tuple #[.int .i64 0, .int .i64 0]) ∧ w = w' := by
  go_enter Tryz.func139, Tryz.ntmps139
  go_wp2
  refine bodyPost_ret (v := .tuple #[.int .i64 0, .int .i64 0]) (by simp [results, Tryz.results139, go_sem]) rfl ?_
  exact ⟨rfl, rfl⟩
theorem fbits_any (k s : Nat) (h : s < symN k) (w : World) : Calls Tryz.prog (fbits k) #[.int .i64 (s : Int)] w (RetV w (.tuple #[.int .i64 (sbits k s : Nat), .int .i64 0])) := by
  unfold symN at h
  unfold fbits sbits
  by_cases h0 : k = 0
  · rw [if_pos h0, if_pos h0]
    exact (prnone_any _ w).mono fun e w' ⟨h1, h2⟩ => ⟨h1, by rw [h2]; exact Below.refl _ _⟩
  · rw [if_neg h0] at h ⊢
    rw [if_neg h0]
    by_cases h2 : k = 2
    · rw [if_pos h2] at h ⊢
      have : decide (k = 2) = true := by simp [h2]
      rw [this]
      exact OffsetBits_any s w h
    · rw [if_neg h2] at h ⊢
      have : decide (k = 2) = false := by simp [h2]
      rw [this]
      exact ExtraBits_any s w h
/-- A kind's shape. -/
def shapeV (k : Nat) : Value := .agg #[.int .i64 (symN k : Nat), .func (.func (fbits k)) #[] #[]]
def shapeEs : Array MapEntry := #[⟨.int .i64 0, shapeV 0, 0⟩, ⟨.int .i64 1, shapeV 1, 1⟩, ⟨.int .i64 2, shapeV 2, 2⟩, ⟨.int .i64 3, shapeV 3, 3⟩]
theorem Tryz.kindKey : Go.Maps.Keyed Tryz.prog 110 := Go.Maps.int_keyed Tryz.underlying110
theorem Tryz.kindOf (k : Int) (h0 : 0 ≤ k) (h : k < 4) : keyOf Tryz.prog 110 (.int .i64 k) = some (.int .i64 k) := Go.Maps.keyOf_int_mk Tryz.underlying110 (WalkArith.wf_i64 (by omega))
/-- A new entry of a map of integer keys. -/
theorem ins_run (w : World) (b : Nat) (es : Array MapEntry) (clock : Nat) (k : Int) (v : Value) (hb : w.heap[b]? = some (.map es clock)) (hk0 : 0 ≤ k) (hk : k < 4) (hf : (Instr.findKey 110 (.int .i64 k) es.toList).run Tryz.prog w = .ok none w) :
    (Instr.mapUpdate 180 (.map (some b)) (.int .i64 k) v).run Tryz.prog w = .ok () (setBlock w b (.map (es.push ⟨.int .i64 k, v, clock⟩) (clock + 1))) := by
  simp [Instr.mapUpdate, run_underlying Tryz.underlying180, MapKept.run_getObj_map hb, Tryz.kindKey.check w false (Tryz.kindOf k hk0 hk), hf, MapKept.run_setObj_map _ hb, Result.andThen, setBlock]
/-- The map of the shapes. -/
def ShapesAt (w : World) (b : Nat) : Prop := w.heap[b]? = some (.map shapeEs 4)
theorem shapes_look (w : World) (b k : Nat) (hk : k < 4) (hb : ShapesAt w b) : (Instr.lookup 180 (.map (some b)) (.int .i64 (k : Int)) false).run Tryz.prog w = .ok (shapeV k) w := by
  have hf : ∃ j, (Instr.findKey 110 (.int .i64 (k : Int)) shapeEs.toList).run Tryz.prog w = .ok (some (j, shapeV k)) w := by
    have : k = 0 ∨ k = 1 ∨ k = 2 ∨ k = 3 := by omega
    rcases this with rfl | rfl | rfl | rfl
    · exact ⟨0, by kernel_rfl⟩
    · exact ⟨1, by kernel_rfl⟩
    · exact ⟨2, by kernel_rfl⟩
    · exact ⟨3, by kernel_rfl⟩
  obtain ⟨j, hf⟩ := hf
  simp [Instr.lookup, run_underlying Tryz.underlying180, MapKept.run_getObj_map hb, Tryz.kindKey.check w _ (Tryz.kindOf (k : Int) (by omega) (by omega)), hf, Result.andThen]
set_option maxRecDepth 100000 in
set_option maxHeartbeats 800000 in
theorem prshapes_any (w : World) : Calls Tryz.prog 112 #[] w fun e w' => e = .returned (.map (some w.heap.size)) ∧ ShapesAt w' w.heap.size ∧ Below w.heap.size w w' := by
  have hmm := @run_makeMap Tryz.prog
  have b0 : (w.alloc (.map #[] 0)).heap[w.heap.size]? = some (.map #[] 0) := heap_alloc_new w _
  have low0 := below_new w (.map #[] 0)
  have r0 := ins_run (w.alloc (.map #[] 0)) w.heap.size #[] 0 0 (shapeV 0) b0 (by decide) (by decide) (by kernel_rfl)
  have b1 := heap_setBlock_same b0 (.map #[⟨.int .i64 0, shapeV 0, 0⟩] 1)
  have low1 := low0.grown (grown_setBlock (o := .map #[⟨.int .i64 0, shapeV 0, 0⟩] 1) b0) (by simp) (fun k e => by cases e; exact Nat.le_refl _)
  have hw1 : setBlock (w.alloc (.map #[] 0)) w.heap.size (.map ((#[] : Array MapEntry).push ⟨.int .i64 0, shapeV 0, 0⟩) (0 + 1)) = setBlock (w.alloc (.map #[] 0)) w.heap.size (.map #[⟨.int .i64 0, shapeV 0, 0⟩] 1) := rfl
  rw [hw1] at r0
  generalize setBlock (w.alloc (.map #[] 0)) w.heap.size (.map #[⟨.int .i64 0, shapeV 0, 0⟩] 1) = w1 at *
  have r1 := ins_run w1 w.heap.size _ _ 1 (shapeV 1) b1 (by decide) (by decide) (by kernel_rfl)
  have b2 := heap_setBlock_same b1 (.map #[⟨.int .i64 0, shapeV 0, 0⟩, ⟨.int .i64 1, shapeV 1, 1⟩] 2)
  have hs1 : w.heap.size ≤ w1.heap.size := low1.size
  have low2 := low1.grown (grown_setBlock (o := .map #[⟨.int .i64 0, shapeV 0, 0⟩, ⟨.int .i64 1, shapeV 1, 1⟩] 2) b1) hs1 (fun k e => by cases e; exact Nat.le_refl _)
  have hw2 : setBlock w1 w.heap.size (.map ((#[⟨.int .i64 0, shapeV 0, 0⟩] : Array MapEntry).push ⟨.int .i64 1, shapeV 1, 1⟩) (1 + 1)) = setBlock w1 w.heap.size (.map #[⟨.int .i64 0, shapeV 0, 0⟩, ⟨.int .i64 1, shapeV 1, 1⟩] 2) := rfl
  rw [hw2] at r1
  generalize setBlock w1 w.heap.size (.map #[⟨.int .i64 0, shapeV 0, 0⟩, ⟨.int .i64 1, shapeV 1, 1⟩] 2) = w2 at *
  have r2 := ins_run w2 w.heap.size _ _ 2 (shapeV 2) b2 (by decide) (by decide) (by kernel_rfl)
  have b3 := heap_setBlock_same b2 (.map #[⟨.int .i64 0, shapeV 0, 0⟩, ⟨.int .i64 1, shapeV 1, 1⟩, ⟨.int .i64 2, shapeV 2, 2⟩] 3)
  have hs2 : w.heap.size ≤ w2.heap.size := low2.size
  have low3 := low2.grown (grown_setBlock (o := .map #[⟨.int .i64 0, shapeV 0, 0⟩, ⟨.int .i64 1, shapeV 1, 1⟩, ⟨.int .i64 2, shapeV 2, 2⟩] 3) b2) hs2 (fun k e => by cases e; exact Nat.le_refl _)
  have hw3 : setBlock w2 w.heap.size (.map ((#[⟨.int .i64 0, shapeV 0, 0⟩, ⟨.int .i64 1, shapeV 1, 1⟩] : Array MapEntry).push ⟨.int .i64 2, shapeV 2, 2⟩) (2 + 1)) = setBlock w2 w.heap.size (.map #[⟨.int .i64 0, shapeV 0, 0⟩, ⟨.int .i64 1, shapeV 1, 1⟩, ⟨.int .i64 2, shapeV 2, 2⟩] 3) := rfl
  rw [hw3] at r2
  generalize setBlock w2 w.heap.size (.map #[⟨.int .i64 0, shapeV 0, 0⟩, ⟨.int .i64 1, shapeV 1, 1⟩, ⟨.int .i64 2, shapeV 2, 2⟩] 3) = w3 at *
  have r3 := ins_run w3 w.heap.size _ _ 3 (shapeV 3) b3 (by decide) (by decide) (by kernel_rfl)
  have b4 := heap_setBlock_same b3 (.map shapeEs 4)
  have hs3 : w.heap.size ≤ w3.heap.size := low3.size
  have low4 := low3.grown (grown_setBlock (o := .map shapeEs 4) b3) hs3 (fun k e => by cases e; exact Nat.le_refl _)
  have hw4 : setBlock w3 w.heap.size (.map ((#[⟨.int .i64 0, shapeV 0, 0⟩, ⟨.int .i64 1, shapeV 1, 1⟩, ⟨.int .i64 2, shapeV 2, 2⟩] : Array MapEntry).push ⟨.int .i64 3, shapeV 3, 3⟩) (3 + 1)) = setBlock w3 w.heap.size (.map shapeEs 4) := rfl
  rw [hw4] at r3
  generalize setBlock w3 w.heap.size (.map shapeEs 4) = w4 at *
  have e0 : shapeV 0 = .agg #[.int .i64 256, .func (.func 139) #[] #[]] := rfl
  have e1 : shapeV 1 = .agg #[.int .i64 44, .func (.func 140) #[] #[]] := rfl
  have e2 : shapeV 2 = .agg #[.int .i64 28, .func (.func 141) #[] #[]] := rfl
  have e3 : shapeV 3 = .agg #[.int .i64 44, .func (.func 140) #[] #[]] := rfl
  rw [e0] at r0
  rw [e1] at r1
  rw [e2] at r2
  rw [e3] at r3
  have HR := hid (And.intro (show ShapesAt w4 w.heap.size from b4) low4)
  clear b0 b1 b2 b3 b4 low0 low1 low2 low3 low4 hw1 hw2 hw3 hw4 hs1 hs2 hs3 e0 e1 e2 e3
  go_enter Tryz.func112, Tryz.ntmps112
  go_wp2
  go_ret
  exact ⟨rfl, HR.out⟩
end Go.Proofs.YtiagbejfghincaaGreat
