/-
  One number of a page: package wal's number.
-/
import Derived.Test.YthbaipljlbddcaaGreatReader
import Derived.Test.YthbaipljlbddcaaGreatNums
namespace Go.Proofs.YthbaipljlbddcaaGreat
open Go.RowKit Go.Cib

set_option maxRecDepth 20000 in
set_option maxHeartbeats 2000000 in
theorem pnumber_any (p : Page) (i : Nat) (hi : i < 120) (w : World) : Calls Tryz.prog 72 #[.agg (secA p), .int .i64 i] w fun e w' => e = .returned (.int .u32 (numAt p i)) ∧ Tch [] w w' := by
  obtain ⟨w1, hw1⟩ : ∃ w1, w.alloc (.cells (secA p) 64) = w1 := ⟨_, rfl⟩
  have hB : w1.heap[w.heap.size]? = some (.cells (secA p) 64) := by
    rw [← hw1, heap_alloc, if_pos rfl]
  have ht : Tch [] w w1 := by rw [← hw1]; exact (Tch.refl _ _).alloc _
  have HW1 := Lib.hid hw1
  have HT := Lib.hid ht
  have hl : (p.l.drop (4 * i)).length = 480 - 4 * i := by rw [List.length_drop, p.h]
  have CR : Hid (Calls Tryz.prog 79 #[.slice (some ⟨w.heap.size, 4 * i, none⟩) (480 - 4 * i) (480 - 4 * i)] w1 (ReaderOut w1 (p.l.drop (4 * i)))) := by
    have h := octRead_any (w := w1) (ad := ⟨w.heap.size, 4 * i, none⟩) (cap := 480 - 4 * i) (bytesAt_row hB (4 * i)) (by intro e; rw [e] at hl; simp at hl; omega) (by omega)
    rw [hl] at h
    exact h
  have HL := Lib.hid hl
  clear hw1 hB ht hl
  go_enter Tryz.func72, Tryz.ntmps72
  go_wp2_with (first | ((with_reducible refine wc_box_agg ?_ ?_); exact rfl; go_frame; rw [HW1.out]))
  rw [run_sliceAt_array_l _ _ _ (by kernel_rfl) _ _ (by omega) (by show _ ≤ ((480 : Nat) : Int); omega)]
  have hsz : ∀ W : World, (sizeOf (Tryz.prog.elem 64)).run Tryz.prog W = .ok 1 W := by
    intro W
    obtain ⟨j, hj, _, hs, _⟩ := byteT.info
    rw [show Tryz.prog.elem 64 = 5 from by kernel_rfl]
    simp [sizeOf, typeInfo, hj, hs]
  have hsl : slicedAt ⟨w.heap.size, 0, none⟩ (4 * (i : Int)).toNat (Tryz.prog.arrayLen 64) (Tryz.prog.arrayLen 64) 1 = .slice (some ⟨w.heap.size, 4 * i, none⟩) (480 - 4 * i) (480 - 4 * i) := by
    rw [show Tryz.prog.arrayLen 64 = 480 from by kernel_rfl, show (4 * (i : Int)).toNat = 4 * i by omega]
    unfold slicedAt
    rw [if_neg (by omega), add_mk, Nat.mul_one, Nat.zero_add]
  rw [hsz, HW1.out]
  simp only [Result.andThen, hsl]
  clear hsz hsl
  go_wp2_with fail
  refine CR.out.mono ?_
  rintro e w2 ⟨r, b, o, cap, rfl, hr, hrn, ht2⟩
  have R2 := Lib.hid hr
  have T2 := Lib.hid (HT.out.trans ht2)
  have T1s := HT.out.size
  clear hr ht2 CR
  go_wp2_with fail
  refine (octU32_any R2.out (by rw [HL.out]; omega)).mono ?_
  rintro e w3 ⟨rfl, _, ht3⟩
  have T3 := Lib.hid (tch_own T2.out ht3 (by simp; omega))
  clear ht3
  go_wp2_with fail
  refine bodyPost_ret (results_tmp rfl _ _ _) rfl ?_
  exact ⟨rfl, T3.out⟩
end Go.Proofs.YthbaipljlbddcaaGreat
