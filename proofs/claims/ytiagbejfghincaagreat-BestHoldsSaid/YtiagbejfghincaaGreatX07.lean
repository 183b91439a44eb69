/-
  The walks of layer 20 (code), second part: Split, SplitOffset, ExtraBits, OffsetBits.
-/
import Derived.Test.YtiagbejfghincaaGreatX06
namespace Go.Proofs.YtiagbejfghincaaGreat
open Go.RowKit Go.Port
theorem num3_any (c q : Nat) (w : World) (h : c < 44) (hq : Blk w q [.func (.func 122) #[] #[]] 120) :
    Calls Tryz.prog 124 #[.int .i64 (c : Int), .pointer (some ⟨q, 0, none⟩)] w fun e w' => e = .returned (.int .i64 (ebits false c : Nat)) ∧ w = w' := by
  by_cases h1 : c < 16
  · exact num3_lo c q w h1
  · exact num3_hi c q w (by omega) h hq
theorem num4_any (c q : Nat) (w : World) (h : c < 44) (hq : Blk w q [.func (.func 122) #[] #[]] 120) :
    Calls Tryz.prog 125 #[.int .i64 (c : Int), .pointer (some ⟨q, 0, none⟩)] w fun e w' => e = .returned (.int .i64 (efirst false c : Nat)) ∧ w = w' := by
  by_cases h1 : c < 16
  · exact num4_lo c q w h1
  · exact num4_hi c q w (by omega) h hq
theorem num2_any (v : Nat) (w : World) (h : v < 262144) :
    Calls Tryz.prog 123 #[.int .i64 (v : Int)] w fun e w' => e = .returned (.int .i64 (ecode false v : Nat)) ∧ w = w' := by
  by_cases h1 : v < 16
  · exact num2_lo v w h1
  · exact num2_hi v w (by omega) h
set_option maxRecDepth 100000 in
theorem many_off (c : Nat) (w : World) (h : Hid (c < 28)) :
    Calls Tryz.prog 160 #[.agg #[.int .i64 1, .int .i64 268435456, .int .i64 28, .func (.func 117) #[] #[], .func (.func 119) #[] #[], .func (.func 120) #[] #[]], .int .i64 (c : Int)] w (RetV w (.tuple #[.int .i64 (ebits true c : Nat), .int .i64 0])) := by
  have HX := hid (Blk.new w [.int .i64 1, .int .i64 268435456, .int .i64 28, .func (.func 117) #[] #[], .func (.func 119) #[] #[], .func (.func 120) #[] #[]] 152)
  have HB := hid (below_new w (.cells #[.int .i64 1, .int .i64 268435456, .int .i64 28, .func (.func 117) #[] #[], .func (.func 119) #[] #[], .func (.func 120) #[] #[]] 152))
  have HI := hid (fun W => inside_ok (c : Int) 0 28 W (by omega) (by have := h.out; omega))
  have c2 := HX.out.cell (k := 2) rfl
  have c4 := HX.out.cell (k := 4) rfl
  have HE := hid (show ebits true c = c from rfl)
  go_enter Tryz.func160, Tryz.ntmps160
  go_wp2_with fail
  refine (HI.out _).mono ?_
  rintro e w' ⟨rfl, rfl⟩
  go_wp2_with fail
  refine (off2_any _ _).mono ?_
  rintro e w' ⟨rfl, rfl⟩
  go_wp2
  refine bodyPost_ret (v := .tuple #[.int .i64 (c : Int), .int .i64 0]) (by simp [results, Tryz.results160, go_sem]) rfl ?_
  exact ⟨by rw [HE.out], HB.out⟩
set_option maxRecDepth 100000 in
theorem of_off (v : Nat) (w : World) (h0 : 1 ≤ v) (h1 : v < 268435456) :
    Calls Tryz.prog 89 #[.agg #[.int .i64 1, .int .i64 268435456, .int .i64 28, .func (.func 117) #[] #[], .func (.func 119) #[] #[], .func (.func 120) #[] #[]], .int .i64 (v : Int)] w fun e w' => (∃ r : Int, e = .returned (.tuple #[.int .i64 (ecode true v : Nat), .int .u64 r, .int .i64 0])) ∧ Below w.heap.size w w' := by
  have HX := hid (Blk.new w [.int .i64 1, .int .i64 268435456, .int .i64 28, .func (.func 117) #[] #[], .func (.func 119) #[] #[], .func (.func 120) #[] #[]] 152)
  have HB := hid (below_new w (.cells #[.int .i64 1, .int .i64 268435456, .int .i64 28, .func (.func 117) #[] #[], .func (.func 119) #[] #[], .func (.func 120) #[] #[]] 152))
  have HI := hid (fun W => inside_ok (v : Int) 1 268435456 W (by omega) (by omega))
  have HC := hid (fun W => off1_any v W h0 h1)
  have hsp := (ecode_spec (off := true) (v := v) (by unfold eleast; simp; try omega) (by unfold ebelow; simp; omega)).1
  have HS := hid (show ecode true v < 28 from hsp)
  generalize ecode true v = c at *
  have c0 := HX.out.cell (k := 0) rfl
  have c1 := HX.out.cell (k := 1) rfl
  have c3 := HX.out.cell (k := 3) rfl
  have c5 := HX.out.cell (k := 5) rfl
  clear h0 h1 hsp
  go_enter Tryz.func89, Tryz.ntmps89
  go_wp2_with fail
  refine (HI.out _).mono ?_
  rintro e w' ⟨rfl, rfl⟩
  go_wp2_with fail
  refine (HC.out _).mono ?_
  rintro e w' ⟨rfl, rfl⟩
  go_wp2_with fail
  refine (off3_any c _ HS.out).mono ?_
  rintro e w' ⟨rfl, rfl⟩
  go_wp2
  refine bodyPost_ret (v := .tuple #[.int .i64 (c : Nat), .int .u64 (IntKind.u64.wrap (wrap64 ((v : Int) - (efirst true c : Nat)))), .int .i64 0]) (by simp [results, Tryz.results89, go_sem]) rfl ?_
  exact ⟨⟨_, rfl⟩, HB.out⟩
set_option maxRecDepth 100000 in
theorem of_off_bad (v : Int) (w : World) (h : v < 1 ∨ 268435456 ≤ v) :
    Calls Tryz.prog 89 #[.agg #[.int .i64 1, .int .i64 268435456, .int .i64 28, .func (.func 117) #[] #[], .func (.func 119) #[] #[], .func (.func 120) #[] #[]], .int .i64 v] w (RetV w (.tuple #[.int .i64 0, .int .u64 0, .int .i64 2])) := by
  have HX := hid (Blk.new w [.int .i64 1, .int .i64 268435456, .int .i64 28, .func (.func 117) #[] #[], .func (.func 119) #[] #[], .func (.func 120) #[] #[]] 152)
  have HB := hid (below_new w (.cells #[.int .i64 1, .int .i64 268435456, .int .i64 28, .func (.func 117) #[] #[], .func (.func 119) #[] #[], .func (.func 120) #[] #[]] 152))
  have HI := hid (fun W => inside_bad v 1 268435456 W h)
  have c0 := HX.out.cell (k := 0) rfl
  have c1 := HX.out.cell (k := 1) rfl
  clear h
  go_enter Tryz.func89, Tryz.ntmps89
  go_wp2_with fail
  refine (HI.out _).mono ?_
  rintro e w' ⟨rfl, rfl⟩
  go_wp2
  refine bodyPost_ret (v := .tuple #[.int .i64 0, .int .u64 0, .int .i64 2]) (by simp [results, Tryz.results89, go_sem]) rfl ?_
  exact ⟨rfl, HB.out⟩
set_option maxRecDepth 100000 in
theorem many_num (q : Nat) (c : Nat) (w : World) (h : Hid (c < 44)) (hq : Blk w q [.func (.func 122) #[] #[]] 120) :
    Calls Tryz.prog 160 #[.agg #[.int .i64 0, .int .i64 262144, .int .i64 44, .func (.func 123) #[] #[], .func (.func 124) #[] #[.pointer (some ⟨q, 0, none⟩)], .func (.func 125) #[] #[.pointer (some ⟨q, 0, none⟩)]], .int .i64 (c : Int)] w (RetV w (.tuple #[.int .i64 (ebits false c : Nat), .int .i64 0])) := by
  have HX := hid (Blk.new w [.int .i64 0, .int .i64 262144, .int .i64 44, .func (.func 123) #[] #[], .func (.func 124) #[] #[.pointer (some ⟨q, 0, none⟩)], .func (.func 125) #[] #[.pointer (some ⟨q, 0, none⟩)]] 152)
  have HB := hid (below_new w (.cells #[.int .i64 0, .int .i64 262144, .int .i64 44, .func (.func 123) #[] #[], .func (.func 124) #[] #[.pointer (some ⟨q, 0, none⟩)], .func (.func 125) #[] #[.pointer (some ⟨q, 0, none⟩)]] 152))
  have HQ := hid (hq.below (below_new w (.cells #[.int .i64 0, .int .i64 262144, .int .i64 44, .func (.func 123) #[] #[], .func (.func 124) #[] #[.pointer (some ⟨q, 0, none⟩)], .func (.func 125) #[] #[.pointer (some ⟨q, 0, none⟩)]] 152)) hq.lt)
  have HI := hid (fun W => inside_ok (c : Int) 0 44 W (by omega) (by have := h.out; omega))
  have c2 := HX.out.cell (k := 2) rfl
  have c4 := HX.out.cell (k := 4) rfl
  clear hq
  go_enter Tryz.func160, Tryz.ntmps160
  go_wp2_with fail
  refine (HI.out _).mono ?_
  rintro e w' ⟨rfl, rfl⟩
  go_wp2_with fail
  refine (num3_any c q _ h.out HQ.out).mono ?_
  rintro e w' ⟨rfl, rfl⟩
  go_wp2
  refine bodyPost_ret (v := .tuple #[.int .i64 (ebits false c : Nat), .int .i64 0]) (by simp [results, Tryz.results160, go_sem]) rfl ?_
  exact ⟨rfl, HB.out⟩
set_option maxRecDepth 100000 in
theorem of_num (q : Nat) (v : Nat) (w : World) (h0 : 0 ≤ v) (h1 : v < 262144) (hq : Blk w q [.func (.func 122) #[] #[]] 120) :
    Calls Tryz.prog 89 #[.agg #[.int .i64 0, .int .i64 262144, .int .i64 44, .func (.func 123) #[] #[], .func (.func 124) #[] #[.pointer (some ⟨q, 0, none⟩)], .func (.func 125) #[] #[.pointer (some ⟨q, 0, none⟩)]], .int .i64 (v : Int)] w fun e w' => (∃ r : Int, e = .returned (.tuple #[.int .i64 (ecode false v : Nat), .int .u64 r, .int .i64 0])) ∧ Below w.heap.size w w' := by
  have HX := hid (Blk.new w [.int .i64 0, .int .i64 262144, .int .i64 44, .func (.func 123) #[] #[], .func (.func 124) #[] #[.pointer (some ⟨q, 0, none⟩)], .func (.func 125) #[] #[.pointer (some ⟨q, 0, none⟩)]] 152)
  have HB := hid (below_new w (.cells #[.int .i64 0, .int .i64 262144, .int .i64 44, .func (.func 123) #[] #[], .func (.func 124) #[] #[.pointer (some ⟨q, 0, none⟩)], .func (.func 125) #[] #[.pointer (some ⟨q, 0, none⟩)]] 152))
  have HQ := hid (hq.below (below_new w (.cells #[.int .i64 0, .int .i64 262144, .int .i64 44, .func (.func 123) #[] #[], .func (.func 124) #[] #[.pointer (some ⟨q, 0, none⟩)], .func (.func 125) #[] #[.pointer (some ⟨q, 0, none⟩)]] 152)) hq.lt)
  have HI := hid (fun W => inside_ok (v : Int) 0 262144 W (by omega) (by omega))
  have HC := hid (fun W => num2_any v W h1)
  have hsp := (ecode_spec (off := false) (v := v) (by unfold eleast; simp; try omega) (by unfold ebelow; simp; omega)).1
  have HS := hid (show ecode false v < 44 from hsp)
  generalize ecode false v = c at *
  have c0 := HX.out.cell (k := 0) rfl
  have c1 := HX.out.cell (k := 1) rfl
  have c3 := HX.out.cell (k := 3) rfl
  have c5 := HX.out.cell (k := 5) rfl
  clear h0 h1 hsp hq
  go_enter Tryz.func89, Tryz.ntmps89
  go_wp2_with fail
  refine (HI.out _).mono ?_
  rintro e w' ⟨rfl, rfl⟩
  go_wp2_with fail
  refine (HC.out _).mono ?_
  rintro e w' ⟨rfl, rfl⟩
  go_wp2_with fail
  refine (num4_any c q _ HS.out HQ.out).mono ?_
  rintro e w' ⟨rfl, rfl⟩
  go_wp2
  refine bodyPost_ret (v := .tuple #[.int .i64 (c : Nat), .int .u64 (IntKind.u64.wrap (wrap64 ((v : Int) - (efirst false c : Nat)))), .int .i64 0]) (by simp [results, Tryz.results89, go_sem]) rfl ?_
  exact ⟨⟨_, rfl⟩, HB.out⟩
set_option maxRecDepth 100000 in
theorem of_num_bad (q : Nat) (v : Int) (w : World) (h : v < 0 ∨ 262144 ≤ v) :
    Calls Tryz.prog 89 #[.agg #[.int .i64 0, .int .i64 262144, .int .i64 44, .func (.func 123) #[] #[], .func (.func 124) #[] #[.pointer (some ⟨q, 0, none⟩)], .func (.func 125) #[] #[.pointer (some ⟨q, 0, none⟩)]], .int .i64 v] w (RetV w (.tuple #[.int .i64 0, .int .u64 0, .int .i64 2])) := by
  have HX := hid (Blk.new w [.int .i64 0, .int .i64 262144, .int .i64 44, .func (.func 123) #[] #[], .func (.func 124) #[] #[.pointer (some ⟨q, 0, none⟩)], .func (.func 125) #[] #[.pointer (some ⟨q, 0, none⟩)]] 152)
  have HB := hid (below_new w (.cells #[.int .i64 0, .int .i64 262144, .int .i64 44, .func (.func 123) #[] #[], .func (.func 124) #[] #[.pointer (some ⟨q, 0, none⟩)], .func (.func 125) #[] #[.pointer (some ⟨q, 0, none⟩)]] 152))
  have HI := hid (fun W => inside_bad v 0 262144 W h)
  have c0 := HX.out.cell (k := 0) rfl
  have c1 := HX.out.cell (k := 1) rfl
  clear h
  go_enter Tryz.func89, Tryz.ntmps89
  go_wp2_with fail
  refine (HI.out _).mono ?_
  rintro e w' ⟨rfl, rfl⟩
  go_wp2
  refine bodyPost_ret (v := .tuple #[.int .i64 0, .int .u64 0, .int .i64 2]) (by simp [results, Tryz.results89, go_sem]) rfl ?_
  exact ⟨rfl, HB.out⟩
set_option maxRecDepth 100000 in
theorem OffsetBits_any (c : Nat) (w : World) (h : c < 28) :
    Calls Tryz.prog 141 #[.int .i64 (c : Int)] w (RetV w (.tuple #[.int .i64 (ebits true c : Nat), .int .i64 0])) := by
  have HH := hid h
  clear h
  go_enter Tryz.func141, Tryz.ntmps141
  go_wp2_with fail
  refine (offsets_any w).mono ?_
  rintro e w1 ⟨rfl, hb⟩
  unfold offKind
  go_wp2_with fail
  refine (many_off c w1 HH).mono ?_
  rintro e w2 ⟨rfl, hb2⟩
  go_wp2
  refine bodyPost_ret (v := .tuple #[.int .i64 (ebits true c : Nat), .int .i64 0]) (by simp [results, Tryz.results141, go_sem]) rfl ?_
  exact ⟨rfl, hb.trans (hb2.mono hb.size)⟩
set_option maxRecDepth 100000 in
theorem ExtraBits_any (c : Nat) (w : World) (h : c < 44) :
    Calls Tryz.prog 140 #[.int .i64 (c : Int)] w (RetV w (.tuple #[.int .i64 (ebits false c : Nat), .int .i64 0])) := by
  have HH := hid h
  clear h
  go_enter Tryz.func140, Tryz.ntmps140
  go_wp2_with fail
  refine (numbers_any w).mono ?_
  rintro e w1 ⟨q, rfl, hq, hb⟩
  unfold numKind
  go_wp2_with fail
  refine (many_num q c w1 HH hq).mono ?_
  rintro e w2 ⟨rfl, hb2⟩
  go_wp2
  refine bodyPost_ret (v := .tuple #[.int .i64 (ebits false c : Nat), .int .i64 0]) (by simp [results, Tryz.results140, go_sem]) rfl ?_
  exact ⟨rfl, hb.trans (hb2.mono hb.size)⟩
set_option maxRecDepth 100000 in
theorem SplitOffset_ok (v : Nat) (w : World) (h0 : 1 ≤ v) (h1 : v < 268435456) :
    Calls Tryz.prog 58 #[.int .i64 (v : Int)] w fun e w' => (∃ r : Int, e = .returned (.tuple #[.int .i64 (ecode true v : Nat), .int .u64 r, .int .i64 0])) ∧ Below w.heap.size w w' := by
  have HH := hid (And.intro h0 h1)
  clear h0 h1
  go_enter Tryz.func58, Tryz.ntmps58
  go_wp2_with fail
  refine (offsets_any w).mono ?_
  rintro e w1 ⟨rfl, hb⟩
  unfold offKind
  go_wp2_with fail
  refine (of_off v w1 HH.out.1 HH.out.2).mono ?_
  rintro e w2 ⟨⟨r, rfl⟩, hb2⟩
  go_wp2
  refine bodyPost_ret (v := .tuple #[.int .i64 (ecode true v : Nat), .int .u64 r, .int .i64 0]) (by simp [results, Tryz.results58, go_sem]) rfl ?_
  exact ⟨⟨r, rfl⟩, hb.trans (hb2.mono hb.size)⟩
set_option maxRecDepth 100000 in
theorem SplitOffset_bad (v : Int) (w : World) (h : v < 1 ∨ 268435456 ≤ v) :
    Calls Tryz.prog 58 #[.int .i64 v] w (RetV w (.tuple #[.int .i64 0, .int .u64 0, .int .i64 2])) := by
  have HH := hid h
  clear h
  go_enter Tryz.func58, Tryz.ntmps58
  go_wp2_with fail
  refine (offsets_any w).mono ?_
  rintro e w1 ⟨rfl, hb⟩
  unfold offKind
  go_wp2_with fail
  refine (of_off_bad v w1 HH.out).mono ?_
  rintro e w2 ⟨rfl, hb2⟩
  go_wp2
  refine bodyPost_ret (v := .tuple #[.int .i64 0, .int .u64 0, .int .i64 2]) (by simp [results, Tryz.results58, go_sem]) rfl ?_
  exact ⟨rfl, hb.trans (hb2.mono hb.size)⟩
set_option maxRecDepth 100000 in
theorem Split_ok (v : Nat) (w : World) (h0 : 0 ≤ v) (h1 : v < 262144) :
    Calls Tryz.prog 60 #[.int .i64 (v : Int)] w fun e w' => (∃ r : Int, e = .returned (.tuple #[.int .i64 (ecode false v : Nat), .int .u64 r, .int .i64 0])) ∧ Below w.heap.size w w' := by
  have HH := hid (And.intro h0 h1)
  clear h0 h1
  go_enter Tryz.func60, Tryz.ntmps60
  go_wp2_with fail
  refine (numbers_any w).mono ?_
  rintro e w1 ⟨q, rfl, hq, hb⟩
  unfold numKind
  go_wp2_with fail
  refine (of_num q v w1 HH.out.1 HH.out.2 hq).mono ?_
  rintro e w2 ⟨⟨r, rfl⟩, hb2⟩
  go_wp2
  refine bodyPost_ret (v := .tuple #[.int .i64 (ecode false v : Nat), .int .u64 r, .int .i64 0]) (by simp [results, Tryz.results60, go_sem]) rfl ?_
  exact ⟨⟨r, rfl⟩, hb.trans (hb2.mono hb.size)⟩
set_option maxRecDepth 100000 in
theorem Split_bad (v : Int) (w : World) (h : v < 0 ∨ 262144 ≤ v) :
    Calls Tryz.prog 60 #[.int .i64 v] w (RetV w (.tuple #[.int .i64 0, .int .u64 0, .int .i64 2])) := by
  have HH := hid h
  clear h
  go_enter Tryz.func60, Tryz.ntmps60
  go_wp2_with fail
  refine (numbers_any w).mono ?_
  rintro e w1 ⟨q, rfl, hq, hb⟩
  unfold numKind
  go_wp2_with fail
  refine (of_num_bad q v w1 HH.out).mono ?_
  rintro e w2 ⟨rfl, hb2⟩
  go_wp2
  refine bodyPost_ret (v := .tuple #[.int .i64 0, .int .u64 0, .int .i64 2]) (by simp [results, Tryz.results60, go_sem]) rfl ?_
  exact ⟨rfl, hb.trans (hb2.mono hb.size)⟩
end Go.Proofs.YtiagbejfghincaaGreat
