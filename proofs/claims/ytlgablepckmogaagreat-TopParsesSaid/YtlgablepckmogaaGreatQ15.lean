/-
  The walks of layer 20 (code), second part: Split, SplitOffset, ExtraBits, OffsetBits.
  The walks of layer 32 (price), second part: the shapes of the kinds.
-/
import Derived.Test.YtlgablepckmogaaGreatQ14
import Derived.Test.YtlgablepckmogaaGreatQ13
import Derived.Test.YtlgablepckmogaaGreatQ03
import Derived.Test.YtlgablepckmogaaGreatQ04
import Derived.Maps.Keyed
namespace Go.Proofs.YtlgablepckmogaaGreat
open Go.RowKit Go.Port
theorem num3_any (c q : Nat) (w : World) (h : c < 44) (hq : Blk w q [.func (.func 119) #[] #[]] 131) :
    Calls Tryz.prog 121 #[.int .i64 (c : Int), .pointer (some ⟨q, 0, none⟩)] w fun e w' => e = .returned (.int .i64 (ebits false c : Nat)) ∧ w = w' := by
  by_cases h1 : c < 16
  · exact num3_lo c q w h1
  · exact num3_hi c q w (by omega) h hq
theorem num4_any (c q : Nat) (w : World) (h : c < 44) (hq : Blk w q [.func (.func 119) #[] #[]] 131) :
    Calls Tryz.prog 122 #[.int .i64 (c : Int), .pointer (some ⟨q, 0, none⟩)] w fun e w' => e = .returned (.int .i64 (efirst false c : Nat)) ∧ w = w' := by
  by_cases h1 : c < 16
  · exact num4_lo c q w h1
  · exact num4_hi c q w (by omega) h hq
theorem num2_any (v : Nat) (w : World) (h : v < 262144) :
    Calls Tryz.prog 120 #[.int .i64 (v : Int)] w fun e w' => e = .returned (.int .i64 (ecode false v : Nat)) ∧ w = w' := by
  by_cases h1 : v < 16
  · exact num2_lo v w h1
  · exact num2_hi v w (by omega) h
set_option maxRecDepth 100000 in
theorem many_off (c : Nat) (w : World) (h : Hid (c < 28)) :
    Calls Tryz.prog 154 #[.agg #[.int .i64 1, .int .i64 268435456, .int .i64 28, .func (.func 114) #[] #[], .func (.func 116) #[] #[], .func (.func 117) #[] #[]], .int .i64 (c : Int)] w (RetV w (.tuple #[.int .i64 (ebits true c : Nat), .int .i64 0])) := by
  have HX := hid (Blk.new w [.int .i64 1, .int .i64 268435456, .int .i64 28, .func (.func 114) #[] #[], .func (.func 116) #[] #[], .func (.func 117) #[] #[]] 173)
  have HB := hid (below_new w (.cells #[.int .i64 1, .int .i64 268435456, .int .i64 28, .func (.func 114) #[] #[], .func (.func 116) #[] #[], .func (.func 117) #[] #[]] 173))
  have HI := hid (fun W => inside_ok (c : Int) 0 28 W (by omega) (by have := h.out; omega))
  have c2 := HX.out.cell (k := 2) rfl
  have c4 := HX.out.cell (k := 4) rfl
  have HE := hid (show ebits true c = c from rfl)
  go_enter Tryz.func154, Tryz.ntmps154
  go_wp2_with fail
  refine (HI.out _).mono ?_
  rintro e w' ⟨rfl, rfl⟩
  go_wp2_with fail
  refine (off2_any _ _).mono ?_
  rintro e w' ⟨rfl, rfl⟩
  go_wp2
  refine bodyPost_ret (v := .tuple #[.int .i64 (c : Int), .int .i64 0]) (by simp [results, Tryz.results154, go_sem]) rfl ?_
  exact ⟨by rw [HE.out], HB.out⟩
set_option maxRecDepth 100000 in
theorem of_off (v : Nat) (w : World) (h0 : 1 ≤ v) (h1 : v < 268435456) :
    Calls Tryz.prog 88 #[.agg #[.int .i64 1, .int .i64 268435456, .int .i64 28, .func (.func 114) #[] #[], .func (.func 116) #[] #[], .func (.func 117) #[] #[]], .int .i64 (v : Int)] w fun e w' => (∃ r : Int, e = .returned (.tuple #[.int .i64 (ecode true v : Nat), .int .u64 r, .int .i64 0])) ∧ Below w.heap.size w w' := by
  have HX := hid (Blk.new w [.int .i64 1, .int .i64 268435456, .int .i64 28, .func (.func 114) #[] #[], .func (.func 116) #[] #[], .func (.func 117) #[] #[]] 173)
  have HB := hid (below_new w (.cells #[.int .i64 1, .int .i64 268435456, .int .i64 28, .func (.func 114) #[] #[], .func (.func 116) #[] #[], .func (.func 117) #[] #[]] 173))
  have HI := hid (fun W => inside_ok (v : Int) 1 268435456 W (by omega) (by omega))
  have HC := hid (fun W => off1_any v W h0 h1)
  have hsp := (ecode_spec (off := true) (v := v) (by unfold eleast; simp; try omega) (by unfold ebelow; simp; omega)).1
  have HS := hid (show ecode true v < 28 from hsp)
  generalize ecode true v = c at *
  have c0 := HX.out.cell (k := 0) rfl
  have c1 := HX.out.cell (k := 1) rfl
  have c3 := HX.out.cell (k := 3) rfl
  have c5 := HX.out.cell (k := 5) rfl
  clear h0 h1 hsp
  go_enter Tryz.func88, Tryz.ntmps88
  go_wp2_with fail
  refine (HI.out _).mono ?_
  rintro e w' ⟨rfl, rfl⟩
  go_wp2_with fail
  refine (HC.out _).mono ?_
  rintro e w' ⟨rfl, rfl⟩
  go_wp2_with fail
  refine (off3_any c _ HS.out).mono ?_
  rintro e w' ⟨rfl, rfl⟩
  go_wp2
  refine bodyPost_ret (v := .tuple #[.int .i64 (c : Nat), .int .u64 (IntKind.u64.wrap (wrap64 ((v : Int) - (efirst true c : Nat)))), .int .i64 0]) (by simp [results, Tryz.results88, go_sem]) rfl ?_
  exact ⟨⟨_, rfl⟩, HB.out⟩
set_option maxRecDepth 100000 in
theorem of_off_bad (v : Int) (w : World) (h : v < 1 ∨ 268435456 ≤ v) :
    Calls Tryz.prog 88 #[.agg #[.int .i64 1, .int .i64 268435456, .int .i64 28, .func (.func 114) #[] #[], .func (.func 116) #[] #[], .func (.func 117) #[] #[]], .int .i64 v] w (RetV w (.tuple #[.int .i64 0, .int .u64 0, .int .i64 2])) := by
  have HX := hid (Blk.new w [.int .i64 1, .int .i64 268435456, .int .i64 28, .func (.func 114) #[] #[], .func (.func 116) #[] #[], .func (.func 117) #[] #[]] 173)
  have HB := hid (below_new w (.cells #[.int .i64 1, .int .i64 268435456, .int .i64 28, .func (.func 114) #[] #[], .func (.func 116) #[] #[], .func (.func 117) #[] #[]] 173))
  have HI := hid (fun W => inside_bad v 1 268435456 W h)
  have c0 := HX.out.cell (k := 0) rfl
  have c1 := HX.out.cell (k := 1) rfl
  clear h
  go_enter Tryz.func88, Tryz.ntmps88
  go_wp2_with fail
  refine (HI.out _).mono ?_
  rintro e w' ⟨rfl, rfl⟩
  go_wp2
  refine bodyPost_ret (v := .tuple #[.int .i64 0, .int .u64 0, .int .i64 2]) (by simp [results, Tryz.results88, go_sem]) rfl ?_
  exact ⟨rfl, HB.out⟩
set_option maxRecDepth 100000 in
theorem many_num (q : Nat) (c : Nat) (w : World) (h : Hid (c < 44)) (hq : Blk w q [.func (.func 119) #[] #[]] 131) :
    Calls Tryz.prog 154 #[.agg #[.int .i64 0, .int .i64 262144, .int .i64 44, .func (.func 120) #[] #[], .func (.func 121) #[] #[.pointer (some ⟨q, 0, none⟩)], .func (.func 122) #[] #[.pointer (some ⟨q, 0, none⟩)]], .int .i64 (c : Int)] w (RetV w (.tuple #[.int .i64 (ebits false c : Nat), .int .i64 0])) := by
  have HX := hid (Blk.new w [.int .i64 0, .int .i64 262144, .int .i64 44, .func (.func 120) #[] #[], .func (.func 121) #[] #[.pointer (some ⟨q, 0, none⟩)], .func (.func 122) #[] #[.pointer (some ⟨q, 0, none⟩)]] 173)
  have HB := hid (below_new w (.cells #[.int .i64 0, .int .i64 262144, .int .i64 44, .func (.func 120) #[] #[], .func (.func 121) #[] #[.pointer (some ⟨q, 0, none⟩)], .func (.func 122) #[] #[.pointer (some ⟨q, 0, none⟩)]] 173))
  have HQ := hid (hq.below (below_new w (.cells #[.int .i64 0, .int .i64 262144, .int .i64 44, .func (.func 120) #[] #[], .func (.func 121) #[] #[.pointer (some ⟨q, 0, none⟩)], .func (.func 122) #[] #[.pointer (some ⟨q, 0, none⟩)]] 173)) hq.lt)
  have HI := hid (fun W => inside_ok (c : Int) 0 44 W (by omega) (by have := h.out; omega))
  have c2 := HX.out.cell (k := 2) rfl
  have c4 := HX.out.cell (k := 4) rfl
  clear hq
  go_enter Tryz.func154, Tryz.ntmps154
  go_wp2_with fail
  refine (HI.out _).mono ?_
  rintro e w' ⟨rfl, rfl⟩
  go_wp2_with fail
  refine (num3_any c q _ h.out HQ.out).mono ?_
  rintro e w' ⟨rfl, rfl⟩
  go_wp2
  refine bodyPost_ret (v := .tuple #[.int .i64 (ebits false c : Nat), .int .i64 0]) (by simp [results, Tryz.results154, go_sem]) rfl ?_
  exact ⟨rfl, HB.out⟩
set_option maxRecDepth 100000 in
theorem of_num (q : Nat) (v : Nat) (w : World) (h0 : 0 ≤ v) (h1 : v < 262144) (hq : Blk w q [.func (.func 119) #[] #[]] 131) :
    Calls Tryz.prog 88 #[.agg #[.int .i64 0, .int .i64 262144, .int .i64 44, .func (.func 120) #[] #[], .func (.func 121) #[] #[.pointer (some ⟨q, 0, none⟩)], .func (.func 122) #[] #[.pointer (some ⟨q, 0, none⟩)]], .int .i64 (v : Int)] w fun e w' => (∃ r : Int, e = .returned (.tuple #[.int .i64 (ecode false v : Nat), .int .u64 r, .int .i64 0])) ∧ Below w.heap.size w w' := by
  have HX := hid (Blk.new w [.int .i64 0, .int .i64 262144, .int .i64 44, .func (.func 120) #[] #[], .func (.func 121) #[] #[.pointer (some ⟨q, 0, none⟩)], .func (.func 122) #[] #[.pointer (some ⟨q, 0, none⟩)]] 173)
  have HB := hid (below_new w (.cells #[.int .i64 0, .int .i64 262144, .int .i64 44, .func (.func 120) #[] #[], .func (.func 121) #[] #[.pointer (some ⟨q, 0, none⟩)], .func (.func 122) #[] #[.pointer (some ⟨q, 0, none⟩)]] 173))
  have HQ := hid (hq.below (below_new w (.cells #[.int .i64 0, .int .i64 262144, .int .i64 44, .func (.func 120) #[] #[], .func (.func 121) #[] #[.pointer (some ⟨q, 0, none⟩)], .func (.func 122) #[] #[.pointer (some ⟨q, 0, none⟩)]] 173)) hq.lt)
  have HI := hid (fun W => inside_ok (v : Int) 0 262144 W (by omega) (by omega))
  have HC := hid (fun W => num2_any v W h1)
  have hsp := (ecode_spec (off := false) (v := v) (by unfold eleast; simp; try omega) (by unfold ebelow; simp; omega)).1
  have HS := hid (show ecode false v < 44 from hsp)
  generalize ecode false v = c at *
  have c0 := HX.out.cell (k := 0) rfl
  have c1 := HX.out.cell (k := 1) rfl
  have c3 := HX.out.cell (k := 3) rfl
  have c5 := HX.out.cell (k := 5) rfl
  clear h0 h1 hsp hq
  go_enter Tryz.func88, Tryz.ntmps88
  go_wp2_with fail
  refine (HI.out _).mono ?_
  rintro e w' ⟨rfl, rfl⟩
  go_wp2_with fail
  refine (HC.out _).mono ?_
  rintro e w' ⟨rfl, rfl⟩
  go_wp2_with fail
  refine (num4_any c q _ HS.out HQ.out).mono ?_
  rintro e w' ⟨rfl, rfl⟩
  go_wp2
  refine bodyPost_ret (v := .tuple #[.int .i64 (c : Nat), .int .u64 (IntKind.u64.wrap (wrap64 ((v : Int) - (efirst false c : Nat)))), .int .i64 0]) (by simp [results, Tryz.results88, go_sem]) rfl ?_
  exact ⟨⟨_, rfl⟩, HB.out⟩
set_option maxRecDepth 100000 in
theorem of_num_bad (q : Nat) (v : Int) (w : World) (h : v < 0 ∨ 262144 ≤ v) :
    Calls Tryz.prog 88 #[.agg #[.int .i64 0, .int .i64 262144, .int .i64 44, .func (.func 120) #[] #[], .func (.func 121) #[] #[.pointer (some ⟨q, 0, none⟩)], .func (.func 122) #[] #[.pointer (some ⟨q, 0, none⟩)]], .int .i64 v] w (RetV w (.tuple #[.int .i64 0, .int .u64 0, .int .i64 2])) := by
  have HX := hid (Blk.new w [.int .i64 0, .int .i64 262144, .int .i64 44, .func (.func 120) #[] #[], .func (.func 121) #[] #[.pointer (some ⟨q, 0, none⟩)], .func (.func 122) #[] #[.pointer (some ⟨q, 0, none⟩)]] 173)
  have HB := hid (below_new w (.cells #[.int .i64 0, .int .i64 262144, .int .i64 44, .func (.func 120) #[] #[], .func (.func 121) #[] #[.pointer (some ⟨q, 0, none⟩)], .func (.func 122) #[] #[.pointer (some ⟨q, 0, none⟩)]] 173))
  have HI := hid (fun W => inside_bad v 0 262144 W h)
  have c0 := HX.out.cell (k := 0) rfl
  have c1 := HX.out.cell (k := 1) rfl
  clear h
  go_enter Tryz.func88, Tryz.ntmps88
  go_wp2_with fail
  refine (HI.out _).mono ?_
  rintro e w' ⟨rfl, rfl⟩
  go_wp2
  refine bodyPost_ret (v := .tuple #[.int .i64 0, .int .u64 0, .int .i64 2]) (by simp [results, Tryz.results88, go_sem]) rfl ?_
  exact ⟨rfl, HB.out⟩
set_option maxRecDepth 100000 in
theorem OffsetBits_any (c : Nat) (w : World) (h : c < 28) :
    Calls Tryz.prog 132 #[.int .i64 (c : Int)] w (RetV w (.tuple #[.int .i64 (ebits true c : Nat), .int .i64 0])) := by
  have HH := hid h
  clear h
  go_enter Tryz.func132, Tryz.ntmps132
  go_wp2_with fail
  refine (offsets_any w).mono ?_
  rintro e w1 ⟨rfl, hb⟩
  unfold offKind
  go_wp2_with fail
  refine (many_off c w1 HH).mono ?_
  rintro e w2 ⟨rfl, hb2⟩
  go_wp2
  refine bodyPost_ret (v := .tuple #[.int .i64 (ebits true c : Nat), .int .i64 0]) (by simp [results, Tryz.results132, go_sem]) rfl ?_
  exact ⟨rfl, hb.trans (hb2.mono hb.size)⟩
set_option maxRecDepth 100000 in
theorem ExtraBits_any (c : Nat) (w : World) (h : c < 44) :
    Calls Tryz.prog 131 #[.int .i64 (c : Int)] w (RetV w (.tuple #[.int .i64 (ebits false c : Nat), .int .i64 0])) := by
  have HH := hid h
  clear h
  go_enter Tryz.func131, Tryz.ntmps131
  go_wp2_with fail
  refine (numbers_any w).mono ?_
  rintro e w1 ⟨q, rfl, hq, hb⟩
  unfold numKind
  go_wp2_with fail
  refine (many_num q c w1 HH hq).mono ?_
  rintro e w2 ⟨rfl, hb2⟩
  go_wp2
  refine bodyPost_ret (v := .tuple #[.int .i64 (ebits false c : Nat), .int .i64 0]) (by simp [results, Tryz.results131, go_sem]) rfl ?_
  exact ⟨rfl, hb.trans (hb2.mono hb.size)⟩
set_option maxRecDepth 100000 in
theorem SplitOffset_ok (v : Nat) (w : World) (h0 : 1 ≤ v) (h1 : v < 268435456) :
    Calls Tryz.prog 64 #[.int .i64 (v : Int)] w fun e w' => (∃ r : Int, e = .returned (.tuple #[.int .i64 (ecode true v : Nat), .int .u64 r, .int .i64 0])) ∧ Below w.heap.size w w' := by
  have HH := hid (And.intro h0 h1)
  clear h0 h1
  go_enter Tryz.func64, Tryz.ntmps64
  go_wp2_with fail
  refine (offsets_any w).mono ?_
  rintro e w1 ⟨rfl, hb⟩
  unfold offKind
  go_wp2_with fail
  refine (of_off v w1 HH.out.1 HH.out.2).mono ?_
  rintro e w2 ⟨⟨r, rfl⟩, hb2⟩
  go_wp2
  refine bodyPost_ret (v := .tuple #[.int .i64 (ecode true v : Nat), .int .u64 r, .int .i64 0]) (by simp [results, Tryz.results64, go_sem]) rfl ?_
  exact ⟨⟨r, rfl⟩, hb.trans (hb2.mono hb.size)⟩
set_option maxRecDepth 100000 in
theorem SplitOffset_bad (v : Int) (w : World) (h : v < 1 ∨ 268435456 ≤ v) :
    Calls Tryz.prog 64 #[.int .i64 v] w (RetV w (.tuple #[.int .i64 0, .int .u64 0, .int .i64 2])) := by
  have HH := hid h
  clear h
  go_enter Tryz.func64, Tryz.ntmps64
  go_wp2_with fail
  refine (offsets_any w).mono ?_
  rintro e w1 ⟨rfl, hb⟩
  unfold offKind
  go_wp2_with fail
  refine (of_off_bad v w1 HH.out).mono ?_
  rintro e w2 ⟨rfl, hb2⟩
  go_wp2
  refine bodyPost_ret (v := .tuple #[.int .i64 0, .int .u64 0, .int .i64 2]) (by simp [results, Tryz.results64, go_sem]) rfl ?_
  exact ⟨rfl, hb.trans (hb2.mono hb.size)⟩
set_option maxRecDepth 100000 in
theorem Split_ok (v : Nat) (w : World) (h0 : 0 ≤ v) (h1 : v < 262144) :
    Calls Tryz.prog 66 #[.int .i64 (v : Int)] w fun e w' => (∃ r : Int, e = .returned (.tuple #[.int .i64 (ecode false v : Nat), .int .u64 r, .int .i64 0])) ∧ Below w.heap.size w w' := by
  have HH := hid (And.intro h0 h1)
  clear h0 h1
  go_enter Tryz.func66, Tryz.ntmps66
  go_wp2_with fail
  refine (numbers_any w).mono ?_
  rintro e w1 ⟨q, rfl, hq, hb⟩
  unfold numKind
  go_wp2_with fail
  refine (of_num q v w1 HH.out.1 HH.out.2 hq).mono ?_
  rintro e w2 ⟨⟨r, rfl⟩, hb2⟩
  go_wp2
  refine bodyPost_ret (v := .tuple #[.int .i64 (ecode false v : Nat), .int .u64 r, .int .i64 0]) (by simp [results, Tryz.results66, go_sem]) rfl ?_
  exact ⟨⟨r, rfl⟩, hb.trans (hb2.mono hb.size)⟩
set_option maxRecDepth 100000 in
theorem Split_bad (v : Int) (w : World) (h : v < 0 ∨ 262144 ≤ v) :
    Calls Tryz.prog 66 #[.int .i64 v] w (RetV w (.tuple #[.int .i64 0, .int .u64 0, .int .i64 2])) := by
  have HH := hid h
  clear h
  go_enter Tryz.func66, Tryz.ntmps66
  go_wp2_with fail
  refine (numbers_any w).mono ?_
  rintro e w1 ⟨q, rfl, hq, hb⟩
  unfold numKind
  go_wp2_with fail
  refine (of_num_bad q v w1 HH.out).mono ?_
  rintro e w2 ⟨rfl, hb2⟩
  go_wp2
  refine bodyPost_ret (v := .tuple #[.int .i64 0, .int .u64 0, .int .i64 2]) (by simp [results, Tryz.results66, go_sem]) rfl ?_
  exact ⟨rfl, hb.trans (hb2.mono hb.size)⟩
end Go.Proofs.YtlgablepckmogaaGreat
namespace Go.Proofs.YtlgablepckmogaaGreat
open Go.RowKit Go.Port Go.MapKept Go.ChangeMaps
/-- The function that tells a kind's extra bits. -/
def fbits (k : Nat) : FuncId := if k = 0 then 130 else if k = 2 then 132 else 131
theorem fbits_enter (k : Nat) (args : Array Value) (w : World) : (callFunc (fbits k) args).run Tryz.prog w = .ok (.enter (fbits k) args) w := by
  unfold fbits
  split
  · kernel_rfl
  · split <;> kernel_rfl
theorem prnone_any (c : Int) (w : World) :
    Calls Tryz.prog 130 #[.int .i64 c] w fun e w' => e = .returned (.tuple #[.int .i64 0, .int .i64 0]) ∧ w = w' := by
  go_enter Tryz.func130, Tryz.ntmps130
  go_wp2
  refine bodyPost_ret (v := .tuple #[.int .i64 0, .int .i64 0]) (by simp [results, Tryz.results130, go_sem]) rfl ?_
  exact ⟨rfl, rfl⟩
theorem fbits_any (k s : Nat) (h : s < symN k) (w : World) : Calls Tryz.prog (fbits k) #[.int .i64 (s : Int)] w (RetV w (.tuple #[.int .i64 (sbits k s : Nat), .int .i64 0])) := by
  unfold symN at h
  unfold fbits sbits
  by_cases h0 : k = 0
  · rw [if_pos h0, if_pos h0]
    exact (prnone_any _ w).mono fun e w' ⟨h1, h2⟩ => ⟨h1, by rw [h2]; exact Below.refl _ _⟩
  · rw [if_neg h0] at h ⊢
    rw [if_neg h0]
    by_cases h2 : k = 2
    · rw [if_pos h2] at h ⊢
      have : decide (k = 2) = true := by simp [h2]
      rw [this]
      exact OffsetBits_any s w h
    · rw [if_neg h2] at h ⊢
      have : decide (k = 2) = false := by simp [h2]
      rw [this]
      exact ExtraBits_any s w h
/-- A kind's shape. -/
def shapeV (k : Nat) : Value := .agg #[.int .i64 (symN k : Nat), .func (.func (fbits k)) #[] #[]]
def shapeEs : Array MapEntry := #[⟨.int .i64 0, shapeV 0, 0⟩, ⟨.int .i64 1, shapeV 1, 1⟩, ⟨.int .i64 2, shapeV 2, 2⟩, ⟨.int .i64 3, shapeV 3, 3⟩]
theorem Tryz.kindKey : Go.Maps.Keyed Tryz.prog 127 := Go.Maps.int_keyed Tryz.underlying127
theorem Tryz.kindOf (k : Int) (h0 : 0 ≤ k) (h : k < 4) : keyOf Tryz.prog 127 (.int .i64 k) = some (.int .i64 k) := Go.Maps.keyOf_int_mk Tryz.underlying127 (WalkArith.wf_i64 (by omega))
/-- A new entry of a map of integer keys. -/
theorem ins_run (w : World) (b : Nat) (es : Array MapEntry) (clock : Nat) (k : Int) (v : Value) (hb : w.heap[b]? = some (.map es clock)) (hk0 : 0 ≤ k) (hk : k < 4) (hf : (Instr.findKey 127 (.int .i64 k) es.toList).run Tryz.prog w = .ok none w) :
    (Instr.mapUpdate 194 (.map (some b)) (.int .i64 k) v).run Tryz.prog w = .ok () (setBlock w b (.map (es.push ⟨.int .i64 k, v, clock⟩) (clock + 1))) := by
  simp [Instr.mapUpdate, run_underlying Tryz.underlying194, MapKept.run_getObj_map hb, Tryz.kindKey.check w false (Tryz.kindOf k hk0 hk), hf, MapKept.run_setObj_map _ hb, Result.andThen, setBlock]
/-- The map of the shapes. -/
def ShapesAt (w : World) (b : Nat) : Prop := w.heap[b]? = some (.map shapeEs 4)
theorem shapes_look (w : World) (b k : Nat) (hk : k < 4) (hb : ShapesAt w b) : (Instr.lookup 194 (.map (some b)) (.int .i64 (k : Int)) false).run Tryz.prog w = .ok (shapeV k) w := by
  have hf : ∃ j, (Instr.findKey 127 (.int .i64 (k : Int)) shapeEs.toList).run Tryz.prog w = .ok (some (j, shapeV k)) w := by
    have : k = 0 ∨ k = 1 ∨ k = 2 ∨ k = 3 := by omega
    rcases this with rfl | rfl | rfl | rfl
    · exact ⟨0, by kernel_rfl⟩
    · exact ⟨1, by kernel_rfl⟩
    · exact ⟨2, by kernel_rfl⟩
    · exact ⟨3, by kernel_rfl⟩
  obtain ⟨j, hf⟩ := hf
  simp [Instr.lookup, run_underlying Tryz.underlying194, MapKept.run_getObj_map hb, Tryz.kindKey.check w _ (Tryz.kindOf (k : Int) (by omega) (by omega)), hf, Result.andThen]
set_option maxRecDepth 100000 in
set_option maxHeartbeats 800000 in
theorem prshapes_any (w : World) : Calls Tryz.prog 103 #[] w fun e w' => e = .returned (.map (some w.heap.size)) ∧ ShapesAt w' w.heap.size ∧ Below w.heap.size w w' := by
  have hmm := @run_makeMap Tryz.prog
  have b0 : (w.alloc (.map #[] 0)).heap[w.heap.size]? = some (.map #[] 0) := heap_alloc_new w _
  have low0 := below_new w (.map #[] 0)
  have r0 := ins_run (w.alloc (.map #[] 0)) w.heap.size #[] 0 0 (shapeV 0) b0 (by decide) (by decide) (by kernel_rfl)
  have b1 := heap_setBlock_same b0 (.map #[⟨.int .i64 0, shapeV 0, 0⟩] 1)
  have low1 := low0.grown (grown_setBlock (o := .map #[⟨.int .i64 0, shapeV 0, 0⟩] 1) b0) (by simp) (fun k e => by cases e; exact Nat.le_refl _)
  have hw1 : setBlock (w.alloc (.map #[] 0)) w.heap.size (.map ((#[] : Array MapEntry).push ⟨.int .i64 0, shapeV 0, 0⟩) (0 + 1)) = setBlock (w.alloc (.map #[] 0)) w.heap.size (.map #[⟨.int .i64 0, shapeV 0, 0⟩] 1) := rfl
  rw [hw1] at r0
  generalize setBlock (w.alloc (.map #[] 0)) w.heap.size (.map #[⟨.int .i64 0, shapeV 0, 0⟩] 1) = w1 at *
  have r1 := ins_run w1 w.heap.size _ _ 1 (shapeV 1) b1 (by decide) (by decide) (by kernel_rfl)
  have b2 := heap_setBlock_same b1 (.map #[⟨.int .i64 0, shapeV 0, 0⟩, ⟨.int .i64 1, shapeV 1, 1⟩] 2)
  have hs1 : w.heap.size ≤ w1.heap.size := low1.size
  have low2 := low1.grown (grown_setBlock (o := .map #[⟨.int .i64 0, shapeV 0, 0⟩, ⟨.int .i64 1, shapeV 1, 1⟩] 2) b1) hs1 (fun k e => by cases e; exact Nat.le_refl _)
  have hw2 : setBlock w1 w.heap.size (.map ((#[⟨.int .i64 0, shapeV 0, 0⟩] : Array MapEntry).push ⟨.int .i64 1, shapeV 1, 1⟩) (1 + 1)) = setBlock w1 w.heap.size (.map #[⟨.int .i64 0, shapeV 0, 0⟩, ⟨.int .i64 1, shapeV 1, 1⟩] 2) := rfl
  rw [hw2] at r1
  generalize setBlock w1 w.heap.size (.map #[⟨.int .i64 0, shapeV 0, 0⟩, ⟨.int .i64 1, shapeV 1, 1⟩] 2) = w2 at *
  have r2 := ins_run w2 w.heap.size _ _ 2 (shapeV 2) b2 (by decide) (by decide) (by kernel_rfl)
  have b3 := heap_setBlock_same b2 (.map #[⟨.int .i64 0, shapeV 0, 0⟩, ⟨.int .i64 1, shapeV 1, 1⟩, ⟨.int .i64 2, shapeV 2, 2⟩] 3)
  have hs2 : w.heap.size ≤ w2.heap.size := low2.size
  have low3 := low2.grown (grown_setBlock (o := .map #[⟨.int .i64 0, shapeV 0, 0⟩, ⟨.int .i64 1, shapeV 1, 1⟩, ⟨.int .i64 2, shapeV 2, 2⟩] 3) b2) hs2 (fun k e => by cases e; exact Nat.le_refl _)
  have hw3 : setBlock w2 w.heap.size (.map ((#[⟨.int .i64 0, shapeV 0, 0⟩, ⟨.int .i64 1, shapeV 1, 1⟩] : Array MapEntry).push ⟨.int .i64 2, shapeV 2, 2⟩) (2 + 1)) = setBlock w2 w.heap.size (.map #[⟨.int .i64 0, shapeV 0, 0⟩, ⟨.int .i64 1, shapeV 1, 1⟩, ⟨.int .i64 2, shapeV 2, 2⟩] 3) := rfl
  rw [hw3] at r2
  generalize setBlock w2 w.heap.size (.map #[⟨.int .i64 0, shapeV 0, 0⟩, ⟨.int .i64 1, shapeV 1, 1⟩, ⟨.int .i64 2, shapeV 2, 2⟩] 3) = w3 at *
  have r3 := ins_run w3 w.heap.size _ _ 3 (shapeV 3) b3 (by decide) (by decide) (by kernel_rfl)
  have b4 := heap_setBlock_same b3 (.map shapeEs 4)
  have hs3 : w.heap.size ≤ w3.heap.size := low3.size
  have low4 := low3.grown (grown_setBlock (o := .map shapeEs 4) b3) hs3 (fun k e => by cases e; exact Nat.le_refl _)
  have hw4 : setBlock w3 w.heap.size (.map ((#[⟨.int .i64 0, shapeV 0, 0⟩, ⟨.int .i64 1, shapeV 1, 1⟩, ⟨.int .i64 2, shapeV 2, 2⟩] : Array MapEntry).push ⟨.int .i64 3, shapeV 3, 3⟩) (3 + 1)) = setBlock w3 w.heap.size (.map shapeEs 4) := rfl
  rw [hw4] at r3
  generalize setBlock w3 w.heap.size (.map shapeEs 4) = w4 at *
  have e0 : shapeV 0 = .agg #[.int .i64 256, .func (.func 130) #[] #[]] := rfl
  have e1 : shapeV 1 = .agg #[.int .i64 44, .func (.func 131) #[] #[]] := rfl
  have e2 : shapeV 2 = .agg #[.int .i64 28, .func (.func 132) #[] #[]] := rfl
  have e3 : shapeV 3 = .agg #[.int .i64 44, .func (.func 131) #[] #[]] := rfl
  rw [e0] at r0
  rw [e1] at r1
  rw [e2] at r2
  rw [e3] at r3
  have HR := hid (And.intro (show ShapesAt w4 w.heap.size from b4) low4)
  clear b0 b1 b2 b3 b4 low0 low1 low2 low3 low4 hw1 hw2 hw3 hw4 hs1 hs2 hs3 e0 e1 e2 e3
  go_enter Tryz.func103, Tryz.ntmps103
  go_wp2
  go_ret
  exact ⟨rfl, HR.out⟩
end Go.Proofs.YtlgablepckmogaaGreat
