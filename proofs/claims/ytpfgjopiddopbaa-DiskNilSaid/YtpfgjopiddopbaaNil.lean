/-
  A disk that is not there refuses all; the law's walk.
-/
import Derived.Test.YtpfgjopiddopbaaLaw1
namespace Go.Proofs.Ytpfgjopiddopbaa
open Go.RowKit Go.Cib

theorem may_nil (w : World) (i : Int) : Calls Try.prog 31 #[.pointer none, .int .i64 i] w fun e w' => e = .returned (.int .i64 1) ∧ w = w' := by
  go_enter Try.func31, Try.ntmps31
  go_wp2
  go_ret
  exact ⟨rfl, rfl⟩
theorem write_nil (w : World) (i : Int) (s : Sec) : Calls Try.prog 12 #[.pointer none, .int .i64 i, .agg (secA s)] w fun e w' => e = .returned (.int .i64 1) ∧ Tch [] w w' := by
  go_enter Try.func12, Try.ntmps12
  go_wp2_with (go_at_call 31; refine (may_nil _ i).mono ?_; rintro e w' ⟨rfl, rfl⟩)
  go_ret
  exact ⟨rfl, (Tch.refl _ _).alloc _⟩
theorem flush_nil (w : World) : Calls Try.prog 14 #[.pointer none] w fun e w' => e = .returned (.int .i64 1) ∧ w = w' := by
  go_enter Try.func14, Try.ntmps14
  go_wp2_with (go_at_call 31; refine (may_nil _ 0).mono ?_; rintro e w' ⟨rfl, rfl⟩)
  go_ret
  exact ⟨rfl, rfl⟩
theorem arm_nil (w : World) (i : Int) : Calls Try.prog 11 #[.pointer none, .int .i64 i] w fun e w' => e = .returned (.int .i64 1) ∧ w = w' := by
  go_enter Try.func11, Try.ntmps11
  go_wp2
  go_ret
  exact ⟨rfl, rfl⟩
theorem on_nil (w : World) (v : Value) : Calls Try.prog 18 #[.pointer none, v] w fun e w' => e = .returned (.int .i64 1) ∧ w = w' := by
  go_enter Try.func18, Try.ntmps18
  go_wp2
  go_ret
  exact ⟨rfl, rfl⟩
theorem off_nil (w : World) : Calls Try.prog 24 #[.pointer none] w fun e w' => e = .returned (.tuple #[]) ∧ w = w' := by
  go_enter Try.func24, Try.ntmps24
  go_wp2
  go_end0
  exact ⟨rfl, rfl⟩
theorem dead_nil (w : World) : Calls Try.prog 15 #[.pointer none] w fun e w' => e = .returned (.bool false) ∧ w = w' := by
  go_enter Try.func15, Try.ntmps15
  go_wp2
  go_ret
  exact ⟨rfl, rfl⟩
theorem size_nil (w : World) : Calls Try.prog 28 #[.pointer none] w fun e w' => e = .returned (.int .i64 0) ∧ w = w' := by
  go_enter Try.func28, Try.ntmps28
  go_wp2
  go_ret
  exact ⟨rfl, rfl⟩
theorem counts_nil (w : World) : Calls Try.prog 16 #[.pointer none] w fun e w' => e = .returned (.tuple #[.int .i64 0, .int .i64 0]) ∧ w = w' := by
  go_enter Try.func16, Try.ntmps16
  go_wp2
  go_ret2
  exact ⟨rfl, rfl⟩
theorem pending_nil (w : World) : Calls Try.prog 25 #[.pointer none] w fun e w' => e = .returned (.slice none 0 0) ∧ w = w' := by
  go_enter Try.func25, Try.ntmps25
  go_wp2
  go_ret
  exact ⟨rfl, rfl⟩
theorem sectors_nil (w : World) : Calls Try.prog 23 #[.pointer none] w fun e w' => e = .returned (.slice none 0 0) ∧ w = w' := by
  go_enter Try.func23, Try.ntmps23
  go_wp2
  go_ret
  exact ⟨rfl, rfl⟩
set_option maxHeartbeats 400000 in
theorem read_nil (w : World) (i : Int) : Calls Try.prog 17 #[.pointer none, .int .i64 i] w fun e w' => e = .returned (.tuple #[.agg (secA (Arr.zero : Sec)), .int .i64 1]) ∧ Tch [] w w' := by
  obtain ⟨W1, hW1⟩ : ∃ W1, W1 = w.alloc (.cells (secA (Arr.zero : Sec)) 33) := ⟨_, rfl⟩
  have hb1 : W1.heap[w.heap.size]? = some (.cells (secA (Arr.zero : Sec)) 33) := by rw [hW1]; exact heap_alloc_new w _
  have t1 : Tch [] w W1 := by rw [hW1]; exact (Tch.refl _ _).alloc _
  have HB1 := Lib.hid hb1
  have HW1 := Lib.hid hW1
  have HT := Lib.hid t1
  clear hb1 hW1 t1
  go_enter Try.func17, Try.ntmps17
  go_wp2_with (first | ((with_reducible refine wc_alloc_arr secT ?_); rw [← HW1.out]; go_frame) | (go_at_call 31; refine (may_nil _ i).mono ?_; rintro e w' ⟨rfl, rfl⟩) | ((with_reducible apply wc_build_arr secT); exact rfl; go_frame) | ((with_reducible apply wc_store_var secT HB1.out); exact rfl; exact rfl; go_frame))
  refine bodyPost_ret (res_cell_tmp secT.agg rfl _ rfl (setRow_heap _ _ _ _ _ _ HB1.out) (size_secA _)) rfl ?_
  exact ⟨rfl, (((HT.out.mono (S' := [w.heap.size]) (by simp)).setRow (.inl (by simp)) _).drop (by simp))⟩

/-- The op's own box, in a world that came of w0. -/
structure BoxOp (w0 w : World) (B : Nat) (o : OpV) : Prop where
  op : OpAt w B 0 o
  tch : Tch [] w0 w
theorem BoxOp.same {w0 w w' : World} {B : Nat} {o : OpV} (h : BoxOp w0 w B o) (ht : Tch [] w w') : BoxOp w0 w' B o := ⟨h.op.later ht, h.tch.trans ht⟩

set_option maxRecDepth 20000 in
set_option maxHeartbeats 2000000 in
theorem diskNil_any (w : World) (o : OpV) (hk : IntsAt w o.ka o.keep) (ht : o.text.size ≤ 9223372036854775807) (hl : o.keep.length ≤ 9223372036854775807) (lo : -9223372036854775808 ≤ o.i) (hi : o.i ≤ 9223372036854775807) :
    Calls Try.prog 8 #[.agg #[.int .i64 o.what, .int .i64 o.i, .string o.text, .slice o.ka o.keep.length o.kcap]] w fun e w' => e = .returned (.bool true) ∧ Tch [] w w' := by
  have hb : BoxOp w (w.alloc (.cells #[.int .i64 o.what, .int .i64 o.i, .string o.text, .slice o.ka o.keep.length o.kcap] 30)) w.heap.size o :=
    ⟨⟨by simp, by simp, by simp, by simp, hk.touch ((Tch.refl [] _).alloc _) (by simp), ht, hl, lo, hi⟩, (Tch.refl _ _).alloc _⟩
  have HB := Lib.hid hb
  clear hb hk lo hi
  go_enter Try.func8, Try.ntmps8
  go_wp2_with fail
  generalize w.alloc (.cells #[.int .i64 o.what, .int .i64 o.i, .string o.text, .slice o.ka o.keep.length o.kcap] 30) = w1 at *
  generalize w.heap.size = B at *
  refine (read_nil _ o.i).mono ?_
  rintro e w2 ⟨rfl, t2⟩
  have hb := (HB.out.same t2).same ((Tch.refl [] w2).alloc (.cells (secA (Arr.zero : Sec)) 33))
  clear t2 HB
  have HB := Lib.hid hb
  clear hb
  go_wp2_with (first | ((with_reducible refine wc_alloc_arr secT ?_); go_frame; (try simp only [World.size_alloc])) | ((with_reducible apply wc_store_new secT); exact rfl; exact rfl; go_frame) | (go_at_call 16; refine (counts_nil _).mono ?_; rintro e w' ⟨rfl, rfl⟩))
  generalize w2.alloc (.cells (secA (Arr.zero : Sec)) 33) = w3 at *
  have c1 := HB.out.op.c1
  have c2 := HB.out.op.c2
  simp only [Nat.zero_add] at c1 c2
  refine (off_nil _).mono ?_
  rintro e w' ⟨rfl, rfl⟩
  go_wp2_with fail
  simp only [List.append]
  refine wp_region_inv 64 [.int .i64 1, .bool true, .bool true, .pointer none, .pointer (some ⟨B, 1, none⟩), .int .i64 o.i, .pointer (some ⟨B, 2, none⟩), .string o.text, .agg (secA (Arr.text o.text.data.toList : Sec)), .int .i64 1, .bool true, .bool true, .bool true, .pointer none, .int .i64 1, .bool true, .bool true, .bool true, .pointer none, .pointer (some ⟨B, 1, none⟩), .int .i64 o.i, .int .i64 1, .bool true, .bool true, .bool true, .pointer none, .pointer (some ⟨B, 3, none⟩), .slice o.ka o.keep.length o.kcap, .int .i64 1, .bool true, .bool true, .bool true, .int .i64 0, .bool true, .bool true, .bool true, .int .i64 0, .bool true, .bool true, .bool true, .pointer none, .int .i64 0, .bool true, .bool true, .bool true, .pointer none, .bool false, .bool true, .bool true, .bool true, .pointer none, .slice none 0 0, .int .i64 0, .bool true, .bool true, .bool true, .pointer none, .slice none 0 0, .int .i64 0, .bool true, .bool true, .bool true, .bool true, .bool true] _
    (fun w' => BoxOp w w' B o) (by kernel_rfl) (by kernel_rfl) rfl
    (by simp only [putAll, List.take_succ_cons, List.take_zero]; go_frame; exact rfl) (HB.out.same (Tch.refl _ _).drew) ?_ ?_
  · simp only [List.take_succ_cons, List.take_zero]
    refine (stepsOk_cons (stepOk_value rfl fun W hW => ?_) (stepsOk_cons (stepOk_value rfl fun W hW => ?_) (stepsOk_cons (stepOk_value rfl fun W hW => ?_) (stepsOk_cons (stepOk_value rfl fun W hW => ?_) (stepsOk_cons (stepOk_value rfl fun W hW => ?_) (stepsOk_cons (stepOk_value rfl fun W hW => ?_) (stepsOk_cons (stepOk_value rfl fun W hW => ?_) (stepsOk_cons (stepOk_value rfl fun W hW => ?_) (stepsOk_cons (stepOk_now rfl fun W hW => ?_) (stepsOk_cons (stepOk_now rfl fun W hW => ?_) (stepsOk_cons (stepOk_value rfl fun W hW => ?_) (stepsOk_cons (stepOk_value rfl fun W hW => ?_) (stepsOk_cons (stepOk_value rfl fun W hW => ?_) (stepsOk_cons (stepOk_value rfl fun W hW => ?_) (stepsOk_cons (stepOk_now rfl fun W hW => ?_) (stepsOk_cons (stepOk_value rfl fun W hW => ?_) (stepsOk_cons (stepOk_value rfl fun W hW => ?_) (stepsOk_cons (stepOk_value rfl fun W hW => ?_) (stepsOk_cons (stepOk_value rfl fun W hW => ?_) (stepsOk_cons (stepOk_value rfl fun W hW => ?_) (stepsOk_cons (stepOk_value rfl fun W hW => ?_) (stepsOk_cons (stepOk_now rfl fun W hW => ?_) (stepsOk_cons (stepOk_value rfl fun W hW => ?_) (stepsOk_cons (stepOk_value rfl fun W hW => ?_) (stepsOk_cons (stepOk_value rfl fun W hW => ?_) (stepsOk_cons (stepOk_value rfl fun W hW => ?_) (stepsOk_cons (stepOk_value rfl fun W hW => ?_) (stepsOk_cons (stepOk_value rfl fun W hW => ?_) (stepsOk_cons (stepOk_now rfl fun W hW => ?_) (stepsOk_cons (stepOk_value rfl fun W hW => ?_) (stepsOk_cons (stepOk_value rfl fun W hW => ?_) (stepsOk_cons (stepOk_value rfl fun W hW => ?_) (stepsOk_cons (stepOk_value rfl fun W hW => ?_) (stepsOk_cons (stepOk_value rfl fun W hW => ?_) (stepsOk_cons (stepOk_value rfl fun W hW => ?_) (stepsOk_cons (stepOk_value rfl fun W hW => ?_) (stepsOk_cons (stepOk_value rfl fun W hW => ?_) (stepsOk_cons (stepOk_value rfl fun W hW => ?_) (stepsOk_cons (stepOk_value rfl fun W hW => ?_) (stepsOk_cons (stepOk_value rfl fun W hW => ?_) (stepsOk_cons (stepOk_value rfl fun W hW => ?_) (stepsOk_cons (stepOk_now rfl fun W hW => ?_) (stepsOk_cons (stepOk_value rfl fun W hW => ?_) (stepsOk_cons (stepOk_value rfl fun W hW => ?_) (stepsOk_cons (stepOk_value rfl fun W hW => ?_) (stepsOk_cons (stepOk_value rfl fun W hW => ?_) (stepsOk_cons (stepOk_now rfl fun W hW => ?_) (stepsOk_cons (stepOk_value rfl fun W hW => ?_) (stepsOk_cons (stepOk_value rfl fun W hW => ?_) (stepsOk_cons (stepOk_value rfl fun W hW => ?_) (stepsOk_cons (stepOk_value rfl fun W hW => ?_) (stepsOk_cons (stepOk_now rfl fun W hW => ?_) (stepsOk_cons (stepOk_value rfl fun W hW => ?_) (stepsOk_cons (stepOk_value rfl fun W hW => ?_) (stepsOk_cons (stepOk_value rfl fun W hW => ?_) (stepsOk_cons (stepOk_value rfl fun W hW => ?_) (stepsOk_cons (stepOk_value rfl fun W hW => ?_) (stepsOk_cons (stepOk_now rfl fun W hW => ?_) (stepsOk_cons (stepOk_value rfl fun W hW => ?_) (stepsOk_cons (stepOk_value rfl fun W hW => ?_) (stepsOk_cons (stepOk_value rfl fun W hW => ?_) (stepsOk_cons (stepOk_value rfl fun W hW => ?_) (stepsOk_cons (stepOk_now rfl fun W hW => ?_) (stepsOk_cons (stepOk_value rfl fun W hW => ?_) stepsOk_nil))))))))))))))))))))))))))))))))))))))))))))))))))))))))))))))))
    all_goals (have HW := Lib.hid hW; have c1 := hW.op.c1; have c2 := hW.op.c2; have c3 := hW.op.c3; simp only [Nat.zero_add] at c1 c2 c3; clear hW; first | (go_simp; done) | go_simp)
    all_goals first | (go_at_call 13; refine (text_any _ _ ht).mono ?_; rintro e w4 ⟨rfl, t4⟩; exact ⟨rfl, HW.out.same t4⟩) | (go_at_call 12; refine (write_nil _ o.i (Arr.text o.text.data.toList)).mono ?_; rintro e w4 ⟨rfl, t4⟩; exact ⟨rfl, HW.out.same t4⟩) | (go_at_call 14; refine (flush_nil _).mono ?_; rintro e w' ⟨rfl, rfl⟩; exact ⟨rfl, HW.out⟩) | (go_at_call 11; refine (arm_nil _ o.i).mono ?_; rintro e w' ⟨rfl, rfl⟩; exact ⟨rfl, HW.out⟩) | (go_at_call 18; refine (on_nil _ _).mono ?_; rintro e w' ⟨rfl, rfl⟩; exact ⟨rfl, HW.out⟩) | (go_at_call 28; refine (size_nil _).mono ?_; rintro e w' ⟨rfl, rfl⟩; exact ⟨rfl, HW.out⟩) | (go_at_call 15; refine (dead_nil _).mono ?_; rintro e w' ⟨rfl, rfl⟩; exact ⟨rfl, HW.out⟩) | (go_at_call 25; refine (pending_nil _).mono ?_; rintro e w' ⟨rfl, rfl⟩; exact ⟨rfl, HW.out⟩) | (go_at_call 23; refine (sectors_nil _).mono ?_; rintro e w' ⟨rfl, rfl⟩; exact ⟨rfl, HW.out⟩) | (go_at_call 19; refine (works_any _).mono ?_; rintro e w' ⟨rfl, hq1⟩; exact ⟨rfl, HW.out.same hq1⟩)
  · intro w5 h5
    have H5 := Lib.hid h5
    clear h5
    simp only [List.drop_succ_cons, List.drop_zero]
    go_wp2
    go_ret
    exact ⟨rfl, H5.out.tch⟩
end Go.Proofs.Ytpfgjopiddopbaa
