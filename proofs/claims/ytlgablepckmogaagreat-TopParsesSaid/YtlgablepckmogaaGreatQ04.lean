/-
  Plain laws on a map with integer elements that the call has made: block b answers as F. Over any program.
-/
import Derived.Test.YtlgablepckmogaaGreatQ02
import Derived.Maps.Keyed
import Derived.DeepKeys5
import Derived.WideKeyEntry
namespace Go.Port
open Go.RowKit Go.MapKept Go.ChangeMaps
open Go.WideMaps (KeyLaw)
open Go.WideElems (findIdx_born findIdx_arr modify_last)
section
variable {κ : Type}
def upd [DecidableEq κ] (F : κ → Option Int) (k : κ) (x : Int) (v : κ) : Option Int := if v = k then some x else F v
theorem upd_same [DecidableEq κ] (F : κ → Option Int) (k : κ) (x : Int) : upd F k x k = some x := by unfold upd; simp
theorem upd_other [DecidableEq κ] {F : κ → Option Int} {k v : κ} {x : Int} (h : v ≠ k) : upd F k x v = F v := by unfold upd; simp [h]
/-- The entries answer as F. -/
structure KEnt (kv : κ → Value) (es : List MapEntry) (clock : Nat) (F : κ → Option Int) : Prop where
  val : ∀ e ∈ es, ∃ c x, e.key = kv c ∧ e.val = .int .i64 x ∧ F c = some x
  has : ∀ c x, F c = some x → ∃ e ∈ es, e.key = kv c
  born : ∀ e ∈ es, e.born < clock
  borns : (es.map (·.born)).Nodup
  keys : (es.map (·.key)).Nodup
/-- Block b is a map that answers as F. -/
def KMap (kv : κ → Value) (w : World) (b : Nat) (F : κ → Option Int) : Prop :=
  ∃ es clock, w.heap[b]? = some (.map es clock) ∧ KEnt kv es.toList clock F
variable {P : Program} {k t e : TypeId} {w w' : World} {b : Nat} {kv : κ → Value} {F : κ → Option Int}
theorem KMap.lt (h : KMap kv w b F) : b < w.heap.size := by
  obtain ⟨es, clock, h1, _⟩ := h
  exact (Array.getElem?_eq_some_iff.1 h1).1
theorem KMap.same (h : KMap kv w b F) (hb : w'.heap[b]? = w.heap[b]?) : KMap kv w' b F := by
  obtain ⟨es, clock, h1, h2⟩ := h
  exact ⟨es, clock, hb.trans h1, h2⟩
theorem KMap.low (h : KMap kv w b F) (hb : Below w.heap.size w w') : KMap kv w' b F := h.same (hb.block b h.lt)
theorem KMap.grown {row : Option Nat} (h : KMap kv w b F) (hg : w.grownBy w' row) (hne : some b ≠ row) : KMap kv w' b F := h.same (hg.block b h.lt hne)
theorem KMap.set (h : KMap kv w b F) {a : Addr} (u : Value) (hne : a.block ≠ b) : KMap kv (w.setCell a u) b F := h.same (Below.heap_setCell w a u b (Ne.symm hne))
theorem KMap.new (kv : κ → Value) (w : World) : KMap kv (w.alloc (.map #[] 0)) w.heap.size (fun _ => none) :=
  ⟨#[], 0, heap_alloc_new w _, by simp, (fun v x h => by cases h), by simp, by simp, by simp⟩
theorem KEnt.keyed {es : List MapEntry} {clock : Nat} (hE : KEnt kv es clock F) (hk : ∀ c, ∃ l, keyOf P k (kv c) = some l) : ∀ e ∈ es, ∃ l, keyOf P k e.key = some l := fun e he => by
  obtain ⟨c, _, h, _⟩ := hE.val e he
  rw [h]
  exact hk c
theorem KMap.look (h : KMap kv w b F) (K : KeyLaw P k) (ht : P.underlying t = some (.map k e)) (hz : ∀ u : World, (zeroValue e).run P u = .ok (.int .i64 0) u) (hk : ∀ c, ∃ l, keyOf P k (kv c) = some l) (hi : ∀ {c c'}, kv c = kv c' → c = c') (key : κ) (c : Bool) :
    (Instr.lookup t (.map (some b)) (kv key) c).run P w = .ok (if c then .tuple #[.int .i64 ((F key).getD 0), .bool (F key).isSome] else .int .i64 ((F key).getD 0)) w := by
  obtain ⟨es, clock, hb, hE⟩ := h
  obtain ⟨kl, hkey⟩ := hk key
  rcases K.find w hkey es.toList (hE.keyed hk) with ⟨h1, h2⟩ | ⟨j, e0, h1, h2, h3⟩
  · have hF : F key = none := by
      cases hf : F key with
      | none => rfl
      | some x =>
        obtain ⟨e0, he, hk⟩ := hE.has key x hf
        exact absurd hk (h2 e0 he)
    rw [hF]
    simp [Instr.lookup, run_underlying ht, MapKept.run_getObj_map hb, K.check w _ hkey, h1, hz, Result.andThen]
  · obtain ⟨c0, x, hc, hv, hf⟩ := hE.val e0 (List.mem_of_getElem? h2)
    obtain rfl := hi (hc.symm.trans h3)
    rw [hf]
    simp [Instr.lookup, run_underlying ht, MapKept.run_getObj_map hb, K.check w _ hkey, h1, hv, Result.andThen]
variable [DecidableEq κ]
theorem modify_eq_set' {α : Type} (f : α → α) : ∀ (l : List α) (j : Nat) (a : α), l[j]? = some a → l.modify j f = l.set j (f a)
  | [], _, _, h => by simp at h
  | b :: r, 0, a, h => by simp at h; subst h; rfl
  | b :: r, j + 1, a, h => by simp at h; simp [List.modify_succ_cons, modify_eq_set' f r j a h]
theorem KEnt.push {es : List MapEntry} {clock : Nat} (hE : KEnt kv es clock F) {key : κ} (hn : ∀ x ∈ es, x.key ≠ kv key) (x : Int) :
    KEnt kv (es ++ [⟨kv key, .int .i64 x, clock⟩]) (clock + 1) (upd F key x) := by
  refine ⟨fun e he => ?_, fun v y hv => ?_, fun e he => ?_, ?_, ?_⟩
  · rcases List.mem_append.1 he with he | he
    · obtain ⟨c, y, h0, h1, h2⟩ := hE.val e he
      exact ⟨c, y, h0, h1, by rw [upd_other (fun hc => hn e he (by rw [h0, hc]))]; exact h2⟩
    · obtain rfl := List.mem_singleton.1 he
      exact ⟨key, x, rfl, rfl, upd_same _ _ _⟩
  · by_cases hk : v = key
    · exact ⟨⟨kv key, .int .i64 x, clock⟩, by simp, by rw [hk]⟩
    · rw [upd_other hk] at hv
      obtain ⟨e, he, h1⟩ := hE.has v y hv
      exact ⟨e, List.mem_append_left _ he, h1⟩
  · rcases List.mem_append.1 he with he | he
    · have := hE.born e he
      omega
    · obtain rfl := List.mem_singleton.1 he
      exact Nat.lt_succ_self _
  · rw [List.map_append, List.nodup_append]
    refine ⟨hE.borns, by simp, fun a ha c hc => ?_⟩
    obtain ⟨e, he, rfl⟩ := List.mem_map.1 ha
    simp only [List.map_cons, List.map_nil, List.mem_singleton] at hc
    subst hc
    have := hE.born e he
    omega
  · rw [List.map_append, List.nodup_append]
    refine ⟨hE.keys, by simp, fun a ha c hc => ?_⟩
    obtain ⟨e, he, rfl⟩ := List.mem_map.1 ha
    simp only [List.map_cons, List.map_nil, List.mem_singleton] at hc
    subst hc
    exact hn e he
theorem KEnt.put {es : List MapEntry} {clock : Nat} (hE : KEnt kv es clock F) (hi : ∀ {c c'}, kv c = kv c' → c = c') {j : Nat} {e0 : MapEntry} (hj : es[j]? = some e0) {key : κ} (h0 : e0.key = kv key) (x : Int) :
    KEnt kv (es.set j ⟨e0.key, .int .i64 x, e0.born⟩) clock (upd F key x) := by
  have hlt := (List.getElem?_eq_some_iff.1 hj).1
  have hm0 : e0 ∈ es := List.mem_of_getElem? hj
  have hmap : ∀ {β : Type} (f : MapEntry → β), f ⟨e0.key, .int .i64 x, e0.born⟩ = f e0 → (es.set j ⟨e0.key, .int .i64 x, e0.born⟩).map f = es.map f := fun f hf => by
    rw [List.map_set, hf]
    apply List.ext_getElem?
    intro i
    by_cases hi : j = i
    · subst hi
      rw [List.getElem?_set_self (by simpa using hlt), List.getElem?_map, hj]
      rfl
    · rw [List.getElem?_set_ne hi]
  have hmem : ∀ e ∈ es.set j ⟨e0.key, .int .i64 x, e0.born⟩, e = ⟨e0.key, .int .i64 x, e0.born⟩ ∨ (e ∈ es ∧ e.key ≠ e0.key) := fun e he => by
    obtain ⟨i, hi⟩ := List.mem_iff_getElem?.1 he
    by_cases hij : j = i
    · subst hij
      rw [List.getElem?_set_self hlt] at hi
      exact .inl (Option.some.inj hi).symm
    · rw [List.getElem?_set_ne hij] at hi
      refine .inr ⟨List.mem_of_getElem? hi, fun hk => hij ?_⟩
      have h1 : (es.map (·.key))[i]? = some e0.key := by rw [List.getElem?_map, hi]; simp [hk]
      have h2 : (es.map (·.key))[j]? = some e0.key := by rw [List.getElem?_map, hj]; rfl
      exact (List.getElem?_inj (by simpa using hlt) hE.keys).1 (h2.trans h1.symm)
  refine ⟨fun e he => ?_, fun v y hv => ?_, fun e he => ?_, ?_, ?_⟩
  · rcases hmem e he with rfl | ⟨he, hk⟩
    · exact ⟨key, x, h0, rfl, upd_same _ _ _⟩
    · obtain ⟨c, y, h4, h1, h2⟩ := hE.val e he
      exact ⟨c, y, h4, h1, by rw [upd_other (fun hc => hk (by rw [h4, hc, h0]))]; exact h2⟩
  · by_cases hk : v = key
    · exact ⟨⟨e0.key, .int .i64 x, e0.born⟩, List.mem_of_getElem? (List.getElem?_set_self hlt), by rw [hk]; exact h0⟩
    · rw [upd_other hk] at hv
      obtain ⟨e, he, h1⟩ := hE.has v y hv
      obtain ⟨i, hi'⟩ := List.mem_iff_getElem?.1 he
      refine ⟨e, List.mem_of_getElem? (i := i) ?_, h1⟩
      rw [List.getElem?_set_ne (fun hij => ?_)]
      · exact hi'
      · subst hij
        rw [hj] at hi'
        cases hi'
        exact hk (hi (h1.symm.trans h0))
  · rcases hmem e he with rfl | ⟨he, _⟩
    · exact hE.born e0 hm0
    · exact hE.born e he
  · rw [hmap _ rfl]; exact hE.borns
  · rw [hmap _ rfl]; exact hE.keys
theorem grown_setBlock {w : World} {b : Nat} {o : Obj} {es : Array MapEntry} {clock : Nat} (hb : w.heap[b]? = some (.map es clock)) : w.grownBy (setBlock w b o) (some b) :=
  ⟨rfl, rfl, rfl, by simp [setBlock], fun i _ hi => heap_setBlock_other hb _ (fun e => hi (by rw [e]))⟩
theorem KMap.store (h : KMap kv w b F) (K : KeyLaw P k) (ht : P.underlying t = some (.map k e)) (hk : ∀ c, ∃ l, keyOf P k (kv c) = some l) (hi : ∀ {c c'}, kv c = kv c' → c = c') (key : κ) (x : Int) :
    ∃ w', (Instr.mapUpdate t (.map (some b)) (kv key) (.int .i64 x)).run P w = .ok () w' ∧ KMap kv w' b (upd F key x) ∧ w.grownBy w' (some b) := by
  obtain ⟨es, clock, hb, hE⟩ := h
  obtain ⟨kl, hkey⟩ := hk key
  rcases K.find w hkey es.toList (hE.keyed hk) with ⟨h1, h2⟩ | ⟨j, e0, h1, h2, h3⟩
  · refine ⟨setBlock w b (.map (es.push ⟨kv key, .int .i64 x, clock⟩) (clock + 1)), ?_, ⟨_, _, heap_setBlock_same hb _, ?_⟩, grown_setBlock hb⟩
    · simp [Instr.mapUpdate, run_underlying ht, MapKept.run_getObj_map hb, K.check w false hkey, h1, MapKept.run_setObj_map _ hb, Result.andThen, setBlock]
    · rw [Array.toList_push]
      exact hE.push h2 x
  · have hj : es[j]? = some e0 := by simpa using h2
    refine ⟨setBlock w b (.map (es.modify j (fun e' => { e' with key := kv key, val := .int .i64 x })) clock), ?_, ⟨_, _, heap_setBlock_same hb _, ?_⟩, grown_setBlock hb⟩
    · simp [Instr.mapUpdate, run_underlying ht, MapKept.run_getObj_map hb, K.check w false hkey, h1, hj, h3, K.stays w hkey, MapKept.run_setObj_map _ hb, Result.andThen, setBlock]
    · rw [Array.toList_modify, modify_eq_set' _ _ _ _ h2]
      have := hE.put hi h2 h3 x
      rw [h3] at this
      exact this
theorem KMap.entry (h : KMap kv w b F) (K : KeyLaw P k) (ht : P.underlying t = some (.map k e)) (hz : ∀ u : World, (zeroValue e).run P u = .ok (.int .i64 0) u) (hk : ∀ c, ∃ l, keyOf P k (kv c) = some l) (hi : ∀ {c c'}, kv c = kv c' → c = c') (key : κ) :
    ∃ st w1, (Instr.mapEntry t (.map (some b)) (kv key)).run P w = .ok (.tuple #[.int .i64 ((F key).getD 0), .int .i64 (st : Nat)]) w1 ∧ w.grownBy w1 (some b) ∧ KMap kv w1 b (upd F key ((F key).getD 0)) ∧
      ∀ (w2 : World) (x : Int), w2.heap[b]? = w1.heap[b]? → ∃ w3, (Instr.entryStore t (.map (some b)) (.int .i64 (st : Nat)) (.int .i64 x)).run P w2 = .ok () w3 ∧ KMap kv w3 b (upd F key x) ∧ w2.grownBy w3 (some b) := by
  obtain ⟨es, clock, hb, hE⟩ := h
  obtain ⟨kl, hkey⟩ := hk key
  rcases K.find w hkey es.toList (hE.keyed hk) with ⟨h1, h2⟩ | ⟨j, e0, h1, h2, h3⟩
  · have hF : F key = none := by
      cases hf : F key with
      | none => rfl
      | some x =>
        obtain ⟨e0, he, hk⟩ := hE.has key x hf
        exact absurd hk (h2 e0 he)
    refine ⟨clock, setBlock w b (.map (es.push ⟨kv key, .int .i64 0, clock⟩) (clock + 1)), ?_, grown_setBlock hb, ⟨_, _, heap_setBlock_same hb _, (by rw [hF, Array.toList_push]; exact hE.push h2 0)⟩, fun w2 x hw2 => ?_⟩
    · rw [hF]
      simp [Instr.mapEntry, run_underlying ht, MapKept.run_getObj_map hb, K.check w false hkey, h1, hz, MapKept.run_setObj_map _ hb, Result.andThen, setBlock, goInt]
    · have hw2' := hw2.trans (heap_setBlock_same hb _)
      refine ⟨setBlock w2 b (.map (es.push ⟨kv key, .int .i64 x, clock⟩) (clock + 1)), ?_, ⟨_, _, heap_setBlock_same hw2' _, ?_⟩, grown_setBlock hw2'⟩
      · have hidx : (es.push ⟨kv key, .int .i64 0, clock⟩).findIdx? (fun e => ((e.born : Nat) : Int) == ((clock : Nat) : Int)) = some es.size := by
          rw [findIdx_arr]
          exact findIdx_born (l := (es.push ⟨kv key, .int .i64 0, clock⟩).toList) (j := es.size) (e0 := ⟨kv key, .int .i64 0, clock⟩) (by
            rw [Array.toList_push]
            exact (hE.push h2 0).borns) (by simp)
        have hmod : (es.push ⟨kv key, .int .i64 0, clock⟩).modify es.size (fun e => { e with val := .int .i64 x }) = es.push ⟨kv key, .int .i64 x, clock⟩ := by
          apply Array.ext'
          rw [Array.toList_modify, Array.toList_push, Array.toList_push, ← Array.length_toList, modify_last]
        simp [Instr.entryStore, MapKept.run_getObj_map hw2', asInt, asIntOf, hidx, hmod, MapKept.run_setObj_map _ hw2', Result.andThen, setBlock]
      · rw [Array.toList_push]
        exact hE.push h2 x
  · have hj : es[j]? = some e0 := by simpa using h2
    obtain ⟨c0, y, hc, hv, hf⟩ := hE.val e0 (List.mem_of_getElem? h2)
    obtain rfl := hi (hc.symm.trans h3)
    have hsame : es.modify j (fun e => { e with key := kv c0 }) = es := by
      apply Array.ext'
      rw [Array.toList_modify, modify_eq_set' _ _ _ _ h2]
      have : ({ e0 with key := kv c0 } : MapEntry) = e0 := by rw [← h3]
      rw [this]
      exact WideElems.set_self _ _ _ h2
    refine ⟨e0.born, setBlock w b (.map es clock), ?_, grown_setBlock hb, ⟨_, _, heap_setBlock_same hb _, ?_⟩, fun w2 x hw2 => ?_⟩
    · rw [hf]
      simp [Instr.mapEntry, run_underlying ht, MapKept.run_getObj_map hb, K.check w false hkey, h1, hj, h3, hv, K.stays w hkey, hsame, MapKept.run_setObj_map _ hb, Result.andThen, setBlock, goInt]
    · have := hE.put hi h2 h3 y
      rw [show (⟨e0.key, .int .i64 y, e0.born⟩ : MapEntry) = e0 from by rw [← hv], WideElems.set_self _ _ _ h2] at this
      rw [hf]
      exact this
    · have hw2' := hw2.trans (heap_setBlock_same hb _)
      refine ⟨setBlock w2 b (.map (es.modify j (fun e => { e with val := .int .i64 x })) clock), ?_, ⟨_, _, heap_setBlock_same hw2' _, ?_⟩, grown_setBlock hw2'⟩
      · have hidx : es.findIdx? (fun e => ((e.born : Nat) : Int) == ((e0.born : Nat) : Int)) = some j := by
          rw [findIdx_arr]
          exact findIdx_born hE.borns h2
        simp [Instr.entryStore, MapKept.run_getObj_map hw2', asInt, asIntOf, hidx, MapKept.run_setObj_map _ hw2', Result.andThen, setBlock]
      · rw [Array.toList_modify, modify_eq_set' _ _ _ _ h2]
        exact hE.put hi h2 h3 x
end
end Go.Port
