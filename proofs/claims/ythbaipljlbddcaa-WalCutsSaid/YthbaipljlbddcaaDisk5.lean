/-
  What the other functions of package disk do to a disk in memory: Arm, Off, Dead, Counts, Size, New; and the text of a sector.
-/
import Derived.Test.YthbaipljlbddcaaDisk4
namespace Go.Proofs.Ythbaipljlbddcaa
open Go.RowKit Go.Cib

set_option maxRecDepth 20000 in
set_option maxHeartbeats 400000 in
theorem arm_any {w : World} {d L M : Nat} {D : DiskS} (h : DiskAt w d L M D) (n : Int) (hn : n ≤ 9223372036854775807) :
    Calls Try.prog 27 #[.pointer (some ⟨d, 0, none⟩), .int .i64 n] w fun e w' =>
      e = .returned (.int .i64 (D.arm n).1) ∧ DiskAt w' d L M (D.arm n).2 ∧ Tch [d] w w' := by
  have c3 := cell_of_row w d 3 _ _ _ h.hd
  have f3 := frozen_of_row w d 3 _ _ h.hd
  simp only [List.getElem?_toArray, List.getElem?_cons_zero, List.getElem?_cons_succ] at c3
  have H := Lib.hid h
  have HO := Lib.hid (h.ok.arm n hn)
  clear h
  by_cases h0 : n < 0
  · have e1 : D.arm n = (2, D) := by unfold DiskS.arm; rw [if_pos h0]
    have E1 := Lib.hid e1
    clear e1
    go_enter Try.func27, Try.ntmps27
    go_wp2
    go_ret
    rw [E1.out]
    exact ⟨rfl, H.out, Tch.refl _ _⟩
  · have e1 : D.arm n = (0, { D with armed := n }) := by unfold DiskS.arm; rw [if_neg h0]
    have E1 := Lib.hid e1
    clear e1
    go_enter Try.func27, Try.ntmps27
    go_wp2
    go_ret
    have ht : Tch [d] w (w.setCell ⟨d, 3, none⟩ (.int .i64 n)) := (Tch.refl _ _).setCell (by simp) _
    have ho := HO.out
    rw [E1.out] at ho ⊢
    exact ⟨rfl, H.out.head ht rfl rfl ho (by rw [heap_setCell_cells H.out.hd _ _]; rfl), ht⟩

set_option maxRecDepth 20000 in
set_option maxHeartbeats 400000 in
theorem off_any {w : World} {d L M : Nat} {D : DiskS} (h : DiskAt w d L M D) :
    Calls Try.prog 28 #[.pointer (some ⟨d, 0, none⟩)] w fun e w' => e = .returned (.tuple #[]) ∧ DiskAt w' d L M D.off ∧ Tch [d] w w' := by
  have c2 := cell_of_row w d 2 _ _ _ h.hd
  have f2 := frozen_of_row w d 2 _ _ h.hd
  have c3 := cell_of_row w d 3 _ _ _ h.hd
  have f3 := frozen_of_row w d 3 _ _ h.hd
  simp only [List.getElem?_toArray, List.getElem?_cons_zero, List.getElem?_cons_succ] at c2 c3
  have H := Lib.hid h
  clear h
  go_enter Try.func28, Try.ntmps28
  go_wp2
  go_end0
  have ht : Tch [d] w ((w.setCell ⟨d, 2, none⟩ (.bool true)).setCell ⟨d, 3, none⟩ (.int .i64 0)) := ((Tch.refl _ _).setCell (by simp) _).setCell (by simp) _
  exact ⟨rfl, H.out.head ht rfl rfl H.out.ok.off (by rw [heap_setCell_cells (heap_setCell_cells H.out.hd _ _) _ _]; rfl), ht⟩

set_option maxRecDepth 20000 in
set_option maxHeartbeats 400000 in
theorem dead_any {w : World} {d L M : Nat} {D : DiskS} (h : DiskAt w d L M D) :
    Calls Try.prog 29 #[.pointer (some ⟨d, 0, none⟩)] w fun e w' => e = .returned (.bool D.dead) ∧ w = w' := by
  have c2 := cell_of_row w d 2 _ _ _ h.hd
  simp only [List.getElem?_toArray, List.getElem?_cons_zero, List.getElem?_cons_succ] at c2
  clear h
  go_enter Try.func29, Try.ntmps29
  go_wp2
  go_ret
  exact ⟨rfl, rfl⟩

set_option maxRecDepth 20000 in
set_option maxHeartbeats 400000 in
theorem size_any {w : World} {d L M : Nat} {D : DiskS} (h : DiskAt w d L M D) :
    Calls Try.prog 25 #[.pointer (some ⟨d, 0, none⟩)] w fun e w' => e = .returned (.int .i64 D.lasts.length) ∧ w = w' := by
  have c0 := cell_of_row w d 0 _ _ _ h.hd
  simp only [List.getElem?_toArray, List.getElem?_cons_zero] at c0
  clear h
  go_enter Try.func25, Try.ntmps25
  go_wp2
  go_ret
  exact ⟨rfl, rfl⟩

end Go.Proofs.Ythbaipljlbddcaa
