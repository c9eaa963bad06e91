/-
  The document's own disk in memory: New, goes, Arm, Goes, Write, Read.
-/
import Derived.Test.YtpfgjopiddopbaaLaw1
namespace Go.Proofs.Ytpfgjopiddopbaa
open Go.RowKit Go.Cib

def hasA (D : DiskS) : Array Value := ((List.range D.lasts.length).map fun (i : Nat) => Value.bool (D.waits (i : Int)).isSome).toArray
theorem size_hasA (D : DiskS) : (hasA D).size = D.lasts.length := by simp [hasA]
theorem hasA_get (D : DiskS) (i : Nat) (h : i < D.lasts.length) : (hasA D)[i]? = some (.bool (D.waits (i : Int)).isSome) := by simp [hasA, h]

/-- Block r holds the document's disk. -/
structure RefAt (w : World) (r L W H : Nat) (D : DiskS) : Prop where
  hr : w.heap[r]? = some (.cells #[.slice (some ⟨L, 0, none⟩) D.lasts.length D.lasts.length, .slice (some ⟨W, 0, none⟩) D.lasts.length D.lasts.length, .slice (some ⟨H, 0, none⟩) D.lasts.length D.lasts.length, .bool D.dead, .int .i64 D.armed, .int .i64 D.writes, .int .i64 D.flushes] 62)
  hL : w.heap[L]? = some (.cells (secsA D.lasts) 33)
  hW : ∃ ws : List Sec, w.heap[W]? = some (.cells (secsA ws) 33) ∧ ws.length = D.lasts.length ∧ ∀ (i : Nat) s, D.waits (i : Int) = some s → ws[i]? = some s
  hH : w.heap[H]? = some (.cells (hasA D) 4)
  d1 : r ≠ L
  d2 : r ≠ W
  d3 : r ≠ H
  d4 : L ≠ W
  d5 : L ≠ H
  d6 : W ≠ H
  ok : D.Ok

theorem RefAt.touch {w w' : World} {r L W H : Nat} {D : DiskS} {S : List Nat} (h : RefAt w r L W H D) (ht : Tch S w w') (h1 : r ∉ S) (h2 : L ∉ S) (h3 : W ∉ S) (h4 : H ∉ S) : RefAt w' r L W H D :=
  ⟨ht.heap h.hr h1, ht.heap h.hL h2, by obtain ⟨ws, g1, g2⟩ := h.hW; exact ⟨ws, ht.heap g1 h3, g2⟩, ht.heap h.hH h4, h.d1, h.d2, h.d3, h.d4, h.d5, h.d6, h.ok⟩
/-- Only the head was written. -/
theorem RefAt.head {w w' : World} {r L W H : Nat} {D D' : DiskS} (h : RefAt w r L W H D) (ht : Tch [r] w w') (hl : D'.lasts = D.lasts) (hw : D'.waits = D.waits) (ok : D'.Ok)
    (hr : w'.heap[r]? = some (.cells #[.slice (some ⟨L, 0, none⟩) D'.lasts.length D'.lasts.length, .slice (some ⟨W, 0, none⟩) D'.lasts.length D'.lasts.length, .slice (some ⟨H, 0, none⟩) D'.lasts.length D'.lasts.length, .bool D'.dead, .int .i64 D'.armed, .int .i64 D'.writes, .int .i64 D'.flushes] 62)) : RefAt w' r L W H D' := by
  refine ⟨hr, by rw [hl]; exact ht.heap h.hL (by simpa using h.d1.symm), ?_, ?_, h.d1, h.d2, h.d3, h.d4, h.d5, h.d6, ok⟩
  · obtain ⟨ws, g1, g2, g3⟩ := h.hW
    exact ⟨ws, ht.heap g1 (by simpa using h.d2.symm), by rw [hl]; exact g2, by rw [hw]; exact g3⟩
  · rw [show hasA D' = hasA D by unfold hasA; rw [hl, hw]]
    exact ht.heap h.hH (by simpa using h.d3.symm)

set_option maxHeartbeats 400000 in
theorem refGoes_any {w : World} {r L W H : Nat} {D : DiskS} (h : RefAt w r L W H D) (hdd : D.dead = false) :
    Calls Try.prog 43 #[.pointer (some ⟨r, 0, none⟩)] w fun e w' => e = .returned (.bool D.went) ∧ RefAt w' r L W H D.goes ∧ Tch [r] w w' := by
  have c3 := cell_of_row w r 3 _ _ _ h.hr
  have c4 := cell_of_row w r 4 _ _ _ h.hr
  have f3 := frozen_of_row w r 3 _ _ h.hr
  have f4 := frozen_of_row w r 4 _ _ h.hr
  simp only [List.getElem?_toArray, List.getElem?_cons_zero, List.getElem?_cons_succ] at c3 c4
  have a0 := h.ok.arm0
  have a1 := h.ok.arm1
  have HH := Lib.hid h
  obtain ⟨armed, ha⟩ : ∃ armed, D.armed = armed := ⟨_, rfl⟩
  rw [ha] at c4 a0 a1
  rw [hdd] at c3
  have HA := Lib.hid ha
  have HD := Lib.hid hdd
  clear h ha hdd
  by_cases h0 : armed = 0
  · subst h0
    go_enter Try.func43, Try.ntmps43
    go_wp2
    go_ret
    have e1 : D.goes = D := by unfold DiskS.goes; rw [if_pos HA.out]
    rw [e1]
    exact ⟨by unfold DiskS.went; rw [HA.out]; rfl, HH.out, Tch.refl _ _⟩
  · have h1 : (armed == 0) = false := by simpa using h0
    by_cases h2 : armed = 1
    · subst h2
      go_enter Try.func43, Try.ntmps43
      go_wp2
      go_ret
      have ht : Tch [r] w ((w.setCell ⟨r, 4, none⟩ (.int .i64 0)).setCell ⟨r, 3, none⟩ (.bool true)) := ((Tch.refl _ _).setCell (by simp) _).setCell (by simp) _
      refine ⟨by unfold DiskS.went; rw [HA.out]; rfl, HH.out.head ht ?_ ?_ HH.out.ok.goes ?_, ht⟩
      · unfold DiskS.goes; split <;> rfl
      · unfold DiskS.goes; split <;> rfl
      · rw [heap_setCell_cells (heap_setCell_cells HH.out.hr _ _) _ _]
        unfold DiskS.goes
        rw [HA.out, if_neg (by omega)]
        rfl
    · have h3 : (armed - 1 == 0) = false := by simp; omega
      go_enter Try.func43, Try.ntmps43
      go_wp2
      go_ret
      have ht : Tch [r] w (w.setCell ⟨r, 4, none⟩ (.int .i64 (armed - 1))) := (Tch.refl _ _).setCell (by simp) _
      have e2 : D.went = false := by unfold DiskS.went; rw [HA.out]; simp; omega
      refine ⟨by rw [e2]; rfl, HH.out.head ht ?_ ?_ HH.out.ok.goes ?_, ht⟩
      · unfold DiskS.goes; split <;> rfl
      · unfold DiskS.goes; split <;> rfl
      · rw [heap_setCell_cells HH.out.hr _ _]
        unfold DiskS.went at e2
        unfold DiskS.goes
        rw [HA.out] at e2 ⊢
        rw [if_neg h0, e2, HD.out]
        rfl

set_option maxHeartbeats 400000 in
theorem refArm_any {w : World} {r L W H : Nat} {D : DiskS} (h : RefAt w r L W H D) (n : Int) (hn : n ≤ 9223372036854775807) :
    Calls Try.prog 36 #[.pointer (some ⟨r, 0, none⟩), .int .i64 n] w fun e w' =>
      e = .returned (.int .i64 (D.arm n).1) ∧ RefAt w' r L W H (D.arm n).2 ∧ Tch [r] w w' := by
  have c4 := cell_of_row w r 4 _ _ _ h.hr
  have f4 := frozen_of_row w r 4 _ _ h.hr
  simp only [List.getElem?_toArray, List.getElem?_cons_zero, List.getElem?_cons_succ] at c4
  have HH := Lib.hid h
  have HO := Lib.hid (h.ok.arm n hn)
  clear h
  by_cases h0 : n < 0
  · have e1 : D.arm n = (2, D) := by unfold DiskS.arm; rw [if_pos h0]
    have E1 := Lib.hid e1
    clear e1
    go_enter Try.func36, Try.ntmps36
    go_wp2
    go_ret
    rw [E1.out]
    exact ⟨rfl, HH.out, Tch.refl _ _⟩
  · have e1 : D.arm n = (0, { D with armed := n }) := by unfold DiskS.arm; rw [if_neg h0]
    have E1 := Lib.hid e1
    clear e1
    go_enter Try.func36, Try.ntmps36
    go_wp2
    go_ret
    have ht : Tch [r] w (w.setCell ⟨r, 4, none⟩ (.int .i64 n)) := (Tch.refl _ _).setCell (by simp) _
    have ho := HO.out
    rw [E1.out] at ho ⊢
    exact ⟨rfl, HH.out.head ht rfl rfl ho (by rw [heap_setCell_cells HH.out.hr _ _]; rfl), ht⟩

set_option maxHeartbeats 400000 in
theorem refOff_any {w : World} {r L W H : Nat} {D : DiskS} (h : RefAt w r L W H D) :
    Calls Try.prog 37 #[.pointer (some ⟨r, 0, none⟩)] w fun e w' => e = .returned (.tuple #[]) ∧ RefAt w' r L W H D.off ∧ Tch [r] w w' := by
  have c3 := cell_of_row w r 3 _ _ _ h.hr
  have f3 := frozen_of_row w r 3 _ _ h.hr
  have c4 := cell_of_row w r 4 _ _ _ h.hr
  have f4 := frozen_of_row w r 4 _ _ h.hr
  simp only [List.getElem?_toArray, List.getElem?_cons_zero, List.getElem?_cons_succ] at c3 c4
  have HH := Lib.hid h
  clear h
  go_enter Try.func37, Try.ntmps37
  go_wp2
  go_end0
  have ht : Tch [r] w ((w.setCell ⟨r, 3, none⟩ (.bool true)).setCell ⟨r, 4, none⟩ (.int .i64 0)) := ((Tch.refl _ _).setCell (by simp) _).setCell (by simp) _
  exact ⟨rfl, HH.out.head ht rfl rfl HH.out.ok.off (by rw [heap_setCell_cells (heap_setCell_cells HH.out.hr _ _) _ _]; rfl), ht⟩
end Go.Proofs.Ytpfgjopiddopbaa
