/-
  Where there is no view all is refused: ViewNil's walk.
-/
import Derived.Test.YtcdgeeoajhbneaaGreatWorksV
import Derived.Test.YtcdgeeoajhbneaaGreatOpV17
namespace Go.Proofs.YtcdgeeoajhbneaaGreat
open Go.RowKit Go.Cib
theorem nmay_any (w : World) (key : ByteArray) : Calls Tryz.prog 12 #[.pointer none, .string key] w fun e w' => e = .returned (.int .i64 1) ∧ w = w' := by
  go_enter Tryz.func12, Tryz.ntmps12
  go_wp2_with fail
  go_ret
  exact ⟨rfl, rfl⟩
theorem nover_any (w : World) (key : ByteArray) : Calls Tryz.prog 4 #[.pointer none, .string key] w fun e w' => e = .returned (.tuple #[.pointer none, .int .i64 1]) ∧ w = w' := by
  go_enter Tryz.func4, Tryz.ntmps4
  go_wp2_with fail
  go_ret2
  exact ⟨rfl, rfl⟩
theorem nsub_any (w : World) (key : ByteArray) : Calls Tryz.prog 5 #[.pointer none, .string key] w fun e w' => e = .returned (.tuple #[.pointer none, .int .i64 1]) ∧ w = w' := by
  go_enter Tryz.func5, Tryz.ntmps5
  go_wp2_with fail
  go_ret2
  exact ⟨rfl, rfl⟩
theorem nget_any (w : World) (key : ByteArray) : Calls Tryz.prog 6 #[.pointer none, .string key] w fun e w' => e = .returned (.tuple #[.string ByteArray.empty, .bool false, .int .i64 1]) ∧ w = w' := by
  go_enter Tryz.func6, Tryz.ntmps6
  go_wp2_with (go_at_call 12; refine (nmay_any _ _).mono ?_; rintro e w' ⟨rfl, rfl⟩)
  go_ret3
  exact ⟨rfl, rfl⟩
theorem nput_any (w : World) (key val : ByteArray) : Calls Tryz.prog 10 #[.pointer none, .string key, .string val] w fun e w' => e = .returned (.int .i64 1) ∧ w = w' := by
  go_enter Tryz.func10, Tryz.ntmps10
  go_wp2_with (go_at_call 12; refine (nmay_any _ _).mono ?_; rintro e w' ⟨rfl, rfl⟩)
  go_ret
  exact ⟨rfl, rfl⟩
theorem ndel_any (w : World) (key : ByteArray) : Calls Tryz.prog 7 #[.pointer none, .string key] w fun e w' => e = .returned (.tuple #[.bool false, .int .i64 1]) ∧ w = w' := by
  go_enter Tryz.func7, Tryz.ntmps7
  go_wp2_with (go_at_call 12; refine (nmay_any _ _).mono ?_; rintro e w' ⟨rfl, rfl⟩)
  go_ret2
  exact ⟨rfl, rfl⟩
theorem nlist_any (w : World) (key val : ByteArray) (n : Int) : Calls Tryz.prog 8 #[.pointer none, .string key, .string val, .int .i64 n] w fun e w' => e = .returned (.tuple #[.slice none 0 0, .int .i64 1]) ∧ Tch [] w w' := by
  go_enter Tryz.func8, Tryz.ntmps8
  go_wp2_with fail
  go_ret2
  exact ⟨rfl, Tch.refl _ _⟩
theorem nclear_any (w : World) (key : ByteArray) : Calls Tryz.prog 9 #[.pointer none, .string key] w fun e w' => e = .returned (.tuple #[.int .i64 0, .int .i64 1]) ∧ Tch [] w w' := by
  go_enter Tryz.func9, Tryz.ntmps9
  go_wp2_with (go_at_call 8; refine (nlist_any _ _ _ _).mono ?_; rintro e w' ⟨rfl, hq⟩; have HQ := Lib.hid hq; clear hq)
  go_ret2
  exact ⟨rfl, HQ.out⟩
set_option maxRecDepth 20000 in
set_option maxHeartbeats 2000000 in
theorem viewNil_any (w : World) (o : OpV17) (_hf : o.Fits) :
    Calls Tryz.prog 3 #[.agg #[.int .i64 o.what, .int .i64 o.at_, .int .i64 o.n, .string o.key, .string o.val]] w fun e w' => e = .returned (.bool true) ∧ Tch [] w w' := by
  have t0 : Tch [] w (w.alloc (.cells #[.int .i64 o.what, .int .i64 o.at_, .int .i64 o.n, .string o.key, .string o.val] 23)) := (Tch.refl _ _).alloc _
  have XB : Hid (∀ (j : Nat) v, (#[.int .i64 o.what, .int .i64 o.at_, .int .i64 o.n, .string o.key, .string o.val] : Array Value)[j]? = some v → (w.alloc (.cells #[.int .i64 o.what, .int .i64 o.at_, .int .i64 o.n, .string o.key, .string o.val] 23)).cell? ⟨w.heap.size, j, none⟩ = some v) := fun j v hj => (cell_of_row _ _ j _ _ _ (heap_alloc_new w _)).trans hj
  have HT0 := Lib.hid t0
  clear t0
  go_enter Tryz.func3, Tryz.ntmps3
  go_wp2_with (first
    | (go_at_call 4; refine (nover_any _ _).mono ?_; rintro e w' ⟨rfl, rfl⟩)
    | (go_at_call 5; refine (nsub_any _ _).mono ?_; rintro e w' ⟨rfl, rfl⟩)
    | (go_at_call 6; refine (nget_any _ _).mono ?_; rintro e w' ⟨rfl, rfl⟩)
    | (go_at_call 7; refine (ndel_any _ _).mono ?_; rintro e w' ⟨rfl, rfl⟩)
    | (go_at_call 8; refine (nlist_any _ _ _ _).mono ?_; rintro e w1 ⟨rfl, hq⟩; have HT1 := Lib.hid (HT0.out.trans hq); have d3 := cell_old hq (XB.out 3 _ rfl); have d4 := cell_old hq (XB.out 4 _ rfl); clear hq)
    | (go_at_call 9; refine (nclear_any _ _).mono ?_; rintro e w2 ⟨rfl, hq⟩; have HT2 := Lib.hid (HT1.out.trans hq); have d5 := cell_old hq d3; have d6 := cell_old hq d4; clear hq)
    | (go_at_call 10; refine (nput_any _ _ _).mono ?_; rintro e w' ⟨rfl, rfl⟩)
    | (go_at_call 11; refine (works17_any _).mono ?_; rintro e w7 ⟨rfl, hq1⟩; have HR := Lib.hid (HT2.out.trans hq1); clear hq1))
  go_ret
  exact ⟨rfl, HR.out⟩
end Go.Proofs.YtcdgeeoajhbneaaGreat
