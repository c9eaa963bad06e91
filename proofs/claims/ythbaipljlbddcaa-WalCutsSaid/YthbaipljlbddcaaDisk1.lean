/-
  What each function of package disk does to a disk in memory: may, goes, Write, Read.
-/
import Derived.Test.YthbaipljlbddcaaRows
import Derived.Test.YthbaipljlbddcaaDiskM
import Derived.StillTailTactics
import Derived.Lib.Hide
namespace Go.Proofs.Ythbaipljlbddcaa
open Go.RowKit Go.Cib

theorem secT : BytesT Try.prog 47 512 :=
  .of (E := 5) (by kernel_rfl) (by kernel_rfl) (by kernel_rfl) (by kernel_rfl) (by kernel_rfl)

theorem keyI : KeyT Try.prog 3 kInt := keyT_int (by kernel_rfl)
theorem uMapSec : Try.prog.underlying 86 = some (.map 3 47) := by kernel_rfl

/-- Block d holds a disk whose sectors lie in block L and whose cache is the map M. -/
structure DiskAt (w : World) (d L M : Nat) (D : DiskS) : Prop where
  hd : w.heap[d]? = some (.cells #[.slice (some ⟨L, 0, none⟩) D.lasts.length D.lasts.length, .map (some M), .bool D.dead, .int .i64 D.armed, .int .i64 D.writes, .int .i64 D.flushes] 88)
  hL : w.heap[L]? = some (.cells (secsA D.lasts) 47)
  hM : MapAt kInt w M (fun i => (D.waits i).map fun s => .agg (secA s))
  dL : d ≠ L
  dM : d ≠ M
  LM : L ≠ M
  ok : D.Ok

theorem DiskAt.touch {w w' : World} {d L M : Nat} {D : DiskS} {S : List Nat} (h : DiskAt w d L M D) (ht : Tch S w w') (h1 : d ∉ S) (h2 : L ∉ S) (h3 : M ∉ S) : DiskAt w' d L M D :=
  ⟨ht.heap h.hd h1, ht.heap h.hL h2, h.hM.touch ht h3, h.dL, h.dM, h.LM, h.ok⟩

set_option maxRecDepth 20000 in
set_option maxHeartbeats 400000 in
theorem may_any {w : World} {d L M : Nat} {D : DiskS} (h : DiskAt w d L M D) (i : Int) :
    Calls Try.prog 41 #[.pointer (some ⟨d, 0, none⟩), .int .i64 i] w fun e w' => e = .returned (.int .i64 (D.may i)) ∧ w = w' := by
  have c0 := cell_of_row w d 0 _ _ _ h.hd
  have c2 := cell_of_row w d 2 _ _ _ h.hd
  simp only [List.getElem?_toArray, List.getElem?_cons_zero, List.getElem?_cons_succ] at c0 c2
  unfold DiskS.may
  generalize D.lasts.length = n at *
  generalize D.dead = dead at *
  clear h
  cases dead with
  | true =>
    go_enter Try.func41, Try.ntmps41
    go_wp2
    go_ret
    exact ⟨rfl, rfl⟩
  | false =>
    by_cases h0 : i < 0
    · go_enter Try.func41, Try.ntmps41
      go_wp2
      go_ret
      exact ⟨rfl, rfl⟩
    · by_cases h1 : (n : Int) ≤ i
      · go_enter Try.func41, Try.ntmps41
        go_wp2
        go_ret
        exact ⟨rfl, rfl⟩
      · go_enter Try.func41, Try.ntmps41
        go_wp2
        go_ret
        exact ⟨rfl, rfl⟩

/-- Only the head was written. -/
theorem DiskAt.head {w w' : World} {d L M : Nat} {D D' : DiskS} (h : DiskAt w d L M D) (ht : Tch [d] w w') (hl : D'.lasts = D.lasts) (hw : D'.waits = D.waits) (ok : D'.Ok)
    (hd : w'.heap[d]? = some (.cells #[.slice (some ⟨L, 0, none⟩) D'.lasts.length D'.lasts.length, .map (some M), .bool D'.dead, .int .i64 D'.armed, .int .i64 D'.writes, .int .i64 D'.flushes] 88)) : DiskAt w' d L M D' :=
  ⟨hd, by rw [hl]; exact ht.heap h.hL (by simpa using h.dL.symm), by rw [hw]; exact h.hM.touch ht (by simpa using h.dM.symm), h.dL, h.dM, h.LM, ok⟩

set_option maxRecDepth 20000 in
set_option maxHeartbeats 400000 in
theorem goes_any {w : World} {d L M : Nat} {D : DiskS} (h : DiskAt w d L M D) :
    Calls Try.prog 42 #[.pointer (some ⟨d, 0, none⟩)] w fun e w' => e = .returned (.bool D.went) ∧ DiskAt w' d L M D.goes ∧ Tch [d] w w' := by
  have c2 := cell_of_row w d 2 _ _ _ h.hd
  have c3 := cell_of_row w d 3 _ _ _ h.hd
  have f2 := frozen_of_row w d 2 _ _ h.hd
  have f3 := frozen_of_row w d 3 _ _ h.hd
  simp only [List.getElem?_toArray, List.getElem?_cons_zero, List.getElem?_cons_succ] at c2 c3
  have a0 := h.ok.arm0
  have a1 := h.ok.arm1
  have H := Lib.hid h
  have ha : ∃ armed, D.armed = armed := ⟨_, rfl⟩
  obtain ⟨armed, ha⟩ := ha
  rw [ha] at c3 a0 a1
  have HA := Lib.hid ha
  clear h ha
  by_cases h0 : armed = 0
  · subst h0
    go_enter Try.func42, Try.ntmps42
    go_wp2
    go_ret
    have e1 : D.goes = D := by unfold DiskS.goes; rw [if_pos HA.out]
    rw [e1]
    exact ⟨by unfold DiskS.went; rw [HA.out]; rfl, H.out, Tch.refl _ _⟩
  · have h1 : (armed == 0) = false := by simpa using h0
    go_enter Try.func42, Try.ntmps42
    go_wp2
    go_ret
    have e2 : (armed - 1 == 0) = D.went := by
      unfold DiskS.went; rw [HA.out, Bool.eq_iff_iff]; simp; omega
    have ht : Tch [d] w ((w.setCell ⟨d, 3, none⟩ (.int .i64 (armed - 1))).setCell ⟨d, 2, none⟩ (.bool (armed - 1 == 0))) := ((Tch.refl _ _).setCell (by simp) _).setCell (by simp) _
    refine ⟨by rw [← e2]; rfl, H.out.head ht ?_ ?_ H.out.ok.goes ?_, ht⟩
    · unfold DiskS.goes; split <;> rfl
    · unfold DiskS.goes; split <;> rfl
    · rw [heap_setCell_cells (heap_setCell_cells H.out.hd _ _) _ _, e2]
      unfold DiskS.goes
      rw [HA.out, if_neg h0]
      simp [DiskS.went, HA.out]
end Go.Proofs.Ythbaipljlbddcaa
