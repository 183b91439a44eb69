/-
  The walks of the split, eleventh part: what is refused; the parts.
-/
import Derived.Test.YtadnhjloeaddnaaSplitJ
import Derived.Test.YtadnhjloeaddnaaRangeGo
import Derived.Deep.RegionHeld3
namespace Go.Proofs.Ytadnhjloeaddnaa
open Go.RowKit Go.Port

theorem put_defers {a : Act} {d : Option Tmp} {v : Value} : (a.put d v).defers = a.defers := by cases d <;> rfl

theorem nop2_any (w : World) : Calls Try.prog 54 #[] w fun e w' => e = .returned (.tuple #[]) ∧ w = w' := by
  go_enter Try.func54, Try.ntmps54
  go_wp2
  go_end0
  exact ⟨rfl, rfl⟩

set_option maxRecDepth 100000 in
set_option maxHeartbeats 400000 in
theorem caught_refused (p : Addr) (x : Int) (w : World) (hc : w.cell? p = some (.int .i64 x)) (hz : w.frozen? p = false) :
    CallsD Try.prog 33 #[.pointer (some p), .func (.func 54) #[] #[]] (.panicking [{ v := .iface 40 (.int .i64 2), recovered := false }]) w fun e u' w' =>
      e = .returned (.tuple #[]) ∧ u' = .panicking [{ v := .iface 40 (.int .i64 2), recovered := true }] ∧ w' = w.setCell p (.int .i64 2) := by
  have herr := iface_err 2
  have hta := iface_is 2
  refine callsD_of_wpS Try.func33 rfl fun c₀ cs hu => ?_
  simp only [Try.ntmps33, List.size_toArray, List.length_cons, List.length_nil, Nat.reduceAdd, Nat.reduceSub, Array.replicate_succ,
     Array.replicate_zero, List.push_toArray, List.append_toArray, List.nil_append, List.cons_append]
  apply wpS_seq
  apply wpS_region
  generalize hQ : (Exit.thenS _ _ : Exit → Act → List Frame → World → Prop) = Q
  simp [wpOpsS, go_sem, recoverD, hu]
  subst hQ
  dsimp only [Exit.thenS]
  refine wpS_of_wp ?_
  go_wp2_with (go_at_call 54; refine (nop2_any _).mono ?_; rintro e w' ⟨rfl, rfl⟩)
  exact ⟨rfl, _, by cases c₀; simp_all, .tuple #[], results_none rfl _ _ _, rfl, rfl, rfl⟩

set_option maxRecDepth 100000 in
set_option maxHeartbeats 1000000 in
theorem refused1_any (pe ps pp : Addr) (size x0 : Int) (a : Option Addr) (n c : Nat) (cuts : List Int) (last : Int) (w : World) (hs0 : 0 ≤ size) (hs1 : size ≤ 9223372036854775807) (hn : cuts.length = n) (hnm : n + 1 ≤ 9223372036854775807) (hnc : n + 1 ≤ c)
    (ce : w.cell? pe = some (.int .i64 x0)) (cz : w.frozen? pe = false) (cs : w.cell? ps = some (.int .i64 size)) (cp : w.cell? pp = some (.slice a (n + 1) c))
    (hc : ∀ j u, ((cuts ++ [last]).map iv)[j]? = some u → ∃ b off, a = some ⟨b, off, none⟩ ∧ b < w.heap.size ∧ w.cell? ⟨b, off + j, none⟩ = some u) :
    Calls Try.prog 53 #[.pointer (some pe), .pointer (some ps), .pointer (some pp)] w fun e w' => e = .returned (.tuple #[]) ∧ ∃ q, w' = (if riseB size 0 cuts = true then w.drewN q else (w.drewN q).setCell pe (.int .i64 2)) := by
  have hc1 : ∀ (q : Nat) j u, (cuts.map iv)[j]? = some u → ∃ b off, a = some ⟨b, off, none⟩ ∧ b < (w.drewN q).heap.size ∧ (w.drewN q).cell? ⟨b, off + j, none⟩ = some u := fun q j u hu => by
    have hj := (List.getElem?_eq_some_iff.1 hu).1
    obtain ⟨b, off, h1, h2, h3⟩ := hc j u (by rw [List.map_append, List.getElem?_append_left hj]; exact hu)
    exact ⟨b, off, h1, h2, by simpa using h3⟩
  obtain ⟨b, off, rfl, _, _⟩ := hc n (iv last) (by simp [← hn])
  clear hc
  have hnm2 : n ≤ maxLen := by unfold maxLen; omega
  have e1 : IntKind.i64.wrap ((n : Int) + 1 - 1) = (n : Int) := by rw [IntKind.wrap_i64]; omega
  have e2 : IntKind.i64.wrap (((n + 1 : Nat) : Int) - 1) = (n : Int) := by rw [IntKind.wrap_i64]; omega
  have e3 : (n : Int) + 1 - 1 = (n : Int) := by omega
  have e4 : 0 < c := by omega
  have e5 : ¬ c = 0 := by omega
  cases hr : risesGo size cuts 0 0 with
  | none =>
    have hb := (rises_none size cuts 0 0).1 hr
    rw [hb]
    have HR := hid (fun q => rises_no size (some ⟨b, off, none⟩) n c cuts (w.drewN q) hs0 hs1 hn hnm2 (hc1 q) hr)
    clear hc1 hr hb
    go_enter_defers Try.func53, Try.ntmps53
    go_wp2
    refine Code.wp_mono (Q := fun e a' w' => match e with | .panic ch => a'.defers = [{ target := .fn (.func 33) #[], args := #[.pointer (some pe), .func (.func 54) #[] #[]] }] ∧ ch = [{ v := .iface 40 (.int .i64 2), recovered := false }] ∧ ∃ q, w' = w.drewN q | _ => False) ?imp ?main
    case imp =>
      intro e a' w' h
      cases e with
      | panic ch =>
        obtain ⟨h1, rfl, q, rfl⟩ := h
        obtain ⟨tm, df⟩ := a'
        dsimp only at h1
        subst h1
        refine leaves_cons (f := 33) (args := #[.pointer (some pe), .func (.func 54) #[] #[]]) (by simp) (by simp [go_sem]) ?_
        refine (caught_refused pe x0 _ (by simpa using ce) (by simpa using cz)).mono ?_
        rintro e u' w'' ⟨rfl, rfl, rfl⟩
        exact ⟨_, results_none rfl _ _ _, rfl, q, by simp⟩
      | _ => exact h.elim
    case main =>
      refine wp_region_held_drew (S := fun W => W.cell? ps = some (.int .i64 size) ∧ W.cell? pp = some (.slice (some ⟨b, off, none⟩) (n + 1) c)) (by kernel_rfl) ⟨by simpa using cs, by simpa using cp⟩ (fun hHeld => ?_)
      refine wpAnyH_take (i := 0) (v := .int .i64 size) (by simp only [List.getElem?_toArray, List.getElem?_cons_zero]; rfl) (by kernel_rfl) (by kernel_rfl) (by kernel_rfl) (fun _ _ _ h => by dsimp only at h ⊢; rw [put_defers] at h; exact h) (Or.inl ⟨by rfl, fun W hSw => ?_⟩) (by assumption) ?_
      · obtain ⟨s1, s2⟩ := hSw
        go_simp
      simp only [Act.put, List.setIfInBounds_toArray, List.set_cons_zero, List.set_cons_succ]
      refine wpAnyH_take (i := 1) (v := .slice (some ⟨b, off, none⟩) (n + 1) c) (by simp only [List.getElem?_toArray, List.getElem?_cons_zero, List.getElem?_cons_succ]; rfl) (by kernel_rfl) (by kernel_rfl) (by kernel_rfl) (fun _ _ _ h => by dsimp only at h ⊢; rw [put_defers] at h; exact h) (Or.inl ⟨by rfl, fun W hSw => ?_⟩) (by assumption) ?_
      · obtain ⟨s1, s2⟩ := hSw
        go_simp
      simp only [Act.put, List.setIfInBounds_toArray, List.set_cons_zero, List.set_cons_succ]
      refine wpAnyH_take (i := 2) (v := .slice (some ⟨b, off, none⟩) (n + 1) c) (by simp only [List.getElem?_toArray, List.getElem?_cons_zero, List.getElem?_cons_succ]; rfl) (by kernel_rfl) (by kernel_rfl) (by kernel_rfl) (fun _ _ _ h => by dsimp only at h ⊢; rw [put_defers] at h; exact h) (Or.inl ⟨by rfl, fun W hSw => ?_⟩) (by assumption) ?_
      · obtain ⟨s1, s2⟩ := hSw
        go_simp
      simp only [Act.put, List.setIfInBounds_toArray, List.set_cons_zero, List.set_cons_succ]
      refine wpAnyH_take (i := 3) (v := .int .i64 ((n : Int) + 1)) (by simp only [List.getElem?_toArray, List.getElem?_cons_zero, List.getElem?_cons_succ]; rfl) (by kernel_rfl) (by kernel_rfl) (by kernel_rfl) (fun _ _ _ h => by dsimp only at h ⊢; rw [put_defers] at h; exact h) (Or.inl ⟨by rfl, fun W hSw => ?_⟩) (by assumption) ?_
      · obtain ⟨s1, s2⟩ := hSw
        go_simp
      simp only [Act.put, List.setIfInBounds_toArray, List.set_cons_zero, List.set_cons_succ]
      refine wpAnyH_take (i := 4) (v := .int .i64 (n : Int)) (by simp only [List.getElem?_toArray, List.getElem?_cons_zero, List.getElem?_cons_succ]; rfl) (by kernel_rfl) (by kernel_rfl) (by kernel_rfl) (fun _ _ _ h => by dsimp only at h ⊢; rw [put_defers] at h; exact h) (Or.inl ⟨by rfl, fun W hSw => ?_⟩) (by assumption) ?_
      · obtain ⟨s1, s2⟩ := hSw
        go_simp
        rw [IntKind.wrap_i64]
        omega
      simp only [Act.put, List.setIfInBounds_toArray, List.set_cons_zero, List.set_cons_succ]
      refine wpAnyH_take (i := 5) (v := .slice (some ⟨b, off, none⟩) n c) (by simp only [List.getElem?_toArray, List.getElem?_cons_zero, List.getElem?_cons_succ]; rfl) (by kernel_rfl) (by kernel_rfl) (by kernel_rfl) (fun _ _ _ h => by dsimp only at h ⊢; rw [put_defers] at h; exact h) (Or.inl ⟨by rfl, fun W hSw => ?_⟩) (by assumption) ?_
      · obtain ⟨s1, s2⟩ := hSw
        go_simp
        intro hh
        exfalso
        omega
      simp only [Act.put, List.setIfInBounds_toArray, List.set_cons_zero, List.set_cons_succ]
      refine wpAnyH_ready (rs := [6]) (by kernel_rfl) (by simp) ?_
      refine AllReadyH.cons (by simp only [List.getElem?_toArray, List.getElem?_cons_zero, List.getElem?_cons_succ]; rfl) (fun K hK => ?_) AllReadyH.nil
      rw [if_pos (by rfl)]
      go_simp
      go_at_call 36
      refine (HR.out 1).mono ?_
      rintro e w' ⟨rfl, rfl⟩
      exact ⟨rfl, 1, rfl⟩
  | some x =>
    have hb : riseB size 0 cuts = true := by
      cases hb : riseB size 0 cuts with
      | true => rfl
      | false => rw [(rises_none size cuts 0 0).2 hb] at hr; cases hr
    rw [hb]
    have HR := hid (fun q => rises_ok size x (some ⟨b, off, none⟩) n c cuts (w.drewN q) hs0 hs1 hn hnm2 (hc1 q) hr)
    clear hc1 hr hb
    go_enter_defers Try.func53, Try.ntmps53
    go_wp2
    refine wp_region_noPanic ?_
    refine wp_region_held_drew (S := fun W => W.cell? ps = some (.int .i64 size) ∧ W.cell? pp = some (.slice (some ⟨b, off, none⟩) (n + 1) c)) (by kernel_rfl) ⟨by simpa using cs, by simpa using cp⟩ (fun hHeld => ?_)
    refine wpAnyH_take (i := 0) (v := .int .i64 size) (by simp only [List.getElem?_toArray, List.getElem?_cons_zero]; rfl) (by kernel_rfl) (by kernel_rfl) (by kernel_rfl) (fun _ _ _ h => h) (Or.inl ⟨by rfl, fun W hSw => ?_⟩) (by assumption) ?_
    · obtain ⟨s1, s2⟩ := hSw
      go_simp
    simp only [Act.put, List.setIfInBounds_toArray, List.set_cons_zero, List.set_cons_succ]
    refine wpAnyH_take (i := 1) (v := .slice (some ⟨b, off, none⟩) (n + 1) c) (by simp only [List.getElem?_toArray, List.getElem?_cons_zero, List.getElem?_cons_succ]; rfl) (by kernel_rfl) (by kernel_rfl) (by kernel_rfl) (fun _ _ _ h => h) (Or.inl ⟨by rfl, fun W hSw => ?_⟩) (by assumption) ?_
    · obtain ⟨s1, s2⟩ := hSw
      go_simp
    simp only [Act.put, List.setIfInBounds_toArray, List.set_cons_zero, List.set_cons_succ]
    refine wpAnyH_take (i := 2) (v := .slice (some ⟨b, off, none⟩) (n + 1) c) (by simp only [List.getElem?_toArray, List.getElem?_cons_zero, List.getElem?_cons_succ]; rfl) (by kernel_rfl) (by kernel_rfl) (by kernel_rfl) (fun _ _ _ h => h) (Or.inl ⟨by rfl, fun W hSw => ?_⟩) (by assumption) ?_
    · obtain ⟨s1, s2⟩ := hSw
      go_simp
    simp only [Act.put, List.setIfInBounds_toArray, List.set_cons_zero, List.set_cons_succ]
    refine wpAnyH_take (i := 3) (v := .int .i64 ((n : Int) + 1)) (by simp only [List.getElem?_toArray, List.getElem?_cons_zero, List.getElem?_cons_succ]; rfl) (by kernel_rfl) (by kernel_rfl) (by kernel_rfl) (fun _ _ _ h => h) (Or.inl ⟨by rfl, fun W hSw => ?_⟩) (by assumption) ?_
    · obtain ⟨s1, s2⟩ := hSw
      go_simp
    simp only [Act.put, List.setIfInBounds_toArray, List.set_cons_zero, List.set_cons_succ]
    refine wpAnyH_take (i := 4) (v := .int .i64 (n : Int)) (by simp only [List.getElem?_toArray, List.getElem?_cons_zero, List.getElem?_cons_succ]; rfl) (by kernel_rfl) (by kernel_rfl) (by kernel_rfl) (fun _ _ _ h => h) (Or.inl ⟨by rfl, fun W hSw => ?_⟩) (by assumption) ?_
    · obtain ⟨s1, s2⟩ := hSw
      go_simp
      rw [IntKind.wrap_i64]
      omega
    simp only [Act.put, List.setIfInBounds_toArray, List.set_cons_zero, List.set_cons_succ]
    refine wpAnyH_take (i := 5) (v := .slice (some ⟨b, off, none⟩) n c) (by simp only [List.getElem?_toArray, List.getElem?_cons_zero, List.getElem?_cons_succ]; rfl) (by kernel_rfl) (by kernel_rfl) (by kernel_rfl) (fun _ _ _ h => h) (Or.inl ⟨by rfl, fun W hSw => ?_⟩) (by assumption) ?_
    · obtain ⟨s1, s2⟩ := hSw
      go_simp
      intro hh
      exfalso
      omega
    simp only [Act.put, List.setIfInBounds_toArray, List.set_cons_zero, List.set_cons_succ]
    refine wpAnyH_ready (rs := [6]) (by kernel_rfl) (by simp) ?_
    refine AllReadyH.cons (by simp only [List.getElem?_toArray, List.getElem?_cons_zero, List.getElem?_cons_succ]; rfl) (fun K hK => ?_) AllReadyH.nil
    rw [if_pos (by rfl)]
    go_simp
    go_at_call 36
    refine (HR.out 1).mono ?_
    rintro e w' ⟨rfl, rfl⟩
    dsimp only
    refine hK.out _ _ hHeld (fun hHeld2 => ?_)
    clear hK K
    refine wpAnyH_done (by kernel_rfl) ?_ _
    refine NoPanic.normal ?_
    refine leaves_cons (f := 33) (args := #[.pointer (some pe), .func (.func 54) #[] #[]]) (by simp) (by simp [go_sem]) ?_
    refine (caught_idle pe _ _).mono ?_
    rintro e u' w'' ⟨rfl, rfl, rfl⟩
    exact ⟨_, results_none rfl _ _ _, rfl, 1, rfl⟩

set_option maxRecDepth 100000 in
set_option maxHeartbeats 1000000 in
theorem refused_any (size : Int) (r : Bool) (a : Option Addr) (n c : Nat) (cuts : List Int) (last : Int) (w : World) (hs0 : 0 ≤ size) (hs1 : size ≤ 9223372036854775807) (hn : cuts.length = n) (hnm : n + 1 ≤ 9223372036854775807) (hnc : n + 1 ≤ c) (hr : riseB size 0 cuts = r)
    (hc : ∀ j u, ((cuts ++ [last]).map iv)[j]? = some u → ∃ b off, a = some ⟨b, off, none⟩ ∧ b < w.heap.size ∧ w.cell? ⟨b, off + j, none⟩ = some u) :
    Calls Try.prog 44 #[.int .i64 size, .slice a (n + 1) c] w (RetV w (.bool (!r))) := by
  have hmf : ∀ (fn : Fn) (first cap : Array Value) (w : World), (Instr.makeFunc fn first cap).run Try.prog w = .ok (.func fn first cap) w := fun _ _ _ _ => rfl
  have hF := Fr.start w 3 29 40 (.int .i64 size) (.slice a (n + 1) c) (.int .i64 0)
  have HB := hid hF.below
  have HR := hid (refused1_any ⟨w.heap.size + 1 + 1, 0, none⟩ ⟨w.heap.size, 0, none⟩ ⟨w.heap.size + 1, 0, none⟩ size 0 a n c cuts last _ hs0 hs1 hn hnm hnc (hF.b2.cell (k := 0) rfl) (hF.b2.frozen 0) (hF.b0.cell (k := 0) rfl) (hF.b1.cell (k := 0) rfl) (fun j u hu => by
    obtain ⟨b, off, h1, h2, h3⟩ := hc j u hu
    exact ⟨b, off, h1, Nat.lt_of_lt_of_le h2 hF.below.size, (hF.below.cell (p := ⟨b, off + j, none⟩) h2).trans h3⟩))
  have hc2 := hF.b2.cell (k := 0) rfl
  have HF2 := hid (hF.put2 (.int .i64 2))
  rw [hr] at HR
  clear hc hF
  cases r with
  | true =>
    go_enter Try.func44, Try.ntmps44
    go_wp2_with (go_at_call 53; refine HR.out.mono ?_; rintro e w' ⟨rfl, q, rfl⟩; rw [if_pos rfl])
    go_ret
    exact ⟨rfl, below_drewN HB.out q⟩
  | false =>
    have hc3 := HF2.out.b2.cell (k := 0) rfl
    go_enter Try.func44, Try.ntmps44
    go_wp2_with (go_at_call 53; refine HR.out.mono ?_; rintro e w' ⟨rfl, q, rfl⟩; rw [if_neg (by decide)])
    go_ret
    exact ⟨rfl, (below_drewN HB.out q).setCell (by dsimp only; omega) _⟩
end Go.Proofs.Ytadnhjloeaddnaa
