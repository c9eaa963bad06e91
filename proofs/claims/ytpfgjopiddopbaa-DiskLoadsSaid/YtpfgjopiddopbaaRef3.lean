/-
  The document's own disk in memory: Read, Flush.
-/
import Derived.Test.YtpfgjopiddopbaaRef2
import Derived.Test.YtpfgjopiddopbaaSecs2
namespace Go.Cib.DiskS
open Go Go.RowKit
/-- Those of the list that are pending are flushed. -/
def settle (D : DiskS) (l : List Int) : DiskS := { D with lasts := lay D.lasts (D.kept l), waits := fun i => if i ∈ l then none else D.waits i }
/-- One more is laid. -/
def lay1 (D : DiskS) (n : Nat) (s : Sec) : DiskS := { D with lasts := D.lasts.set n s }
/-- One is no more pending. -/
def drop1 (D : DiskS) (n : Nat) : DiskS := { D with waits := fun j => if j = (n : Int) then none else D.waits j }
theorem settle_nil (D : DiskS) : D.settle [] = D := by
  unfold settle
  have : D.kept [] = fun _ => none := by funext i; simp [kept]
  rw [this, lay_none]
  simp
theorem settle_none (D : DiskS) (l : List Int) (i : Int) (h : (D.settle l).waits i = none) : D.settle (l ++ [i]) = D.settle l := by
  unfold settle at h ⊢
  simp only at h
  have e1 : D.kept (l ++ [i]) = D.kept l := by
    funext j
    unfold kept
    by_cases e : j = i
    · subst e
      by_cases hm : j ∈ l
      · simp [hm]
      · rw [if_neg hm] at h; simp [hm, h]
    · simp [e]
  have e2 : (fun j => if j ∈ l ++ [i] then none else D.waits j) = fun j => if j ∈ l then none else D.waits j := by
    funext j
    by_cases e : j = i
    · subst e
      by_cases hm : j ∈ l
      · simp [hm]
      · rw [if_neg hm] at h; simp [hm, h]
    · simp [e]
  rw [e1, e2]
theorem settle_some (D : DiskS) (l : List Int) (i : Nat) (s : Sec) (h : (D.settle l).waits i = some s) : D.settle (l ++ [(i : Int)]) = ((D.settle l).lay1 i s).drop1 i := by
  unfold settle lay1 drop1 at *
  simp only at h ⊢
  have hm : (i : Int) ∉ l := by intro hm; rw [if_pos hm] at h; cases h
  rw [if_neg hm] at h
  congr 1
  · have e1 : D.kept (l ++ [(i : Int)]) = fun j => if j = (i : Int) then .some s else D.kept l j := by
      funext j
      unfold kept
      by_cases e : j = (i : Int)
      · subst e; simp [h]
      · simp [e]
    rw [e1, lay_upd]
  · funext j
    by_cases e : j = (i : Int)
    · subst e; simp
    · simp [e]
@[simp] theorem settle_len (D : DiskS) (l : List Int) : (D.settle l).lasts.length = D.lasts.length := by simp [settle]
theorem settle_all (D : DiskS) (ok : D.Ok) : D.settle ((List.range D.lasts.length).map fun (i : Nat) => (i : Int)) = D.flushed := by
  unfold settle flushed
  have hm : ∀ i s, D.waits i = some s → i ∈ (List.range D.lasts.length).map fun (i : Nat) => (i : Int) := by
    intro i s h
    obtain ⟨h1, h2⟩ := ok.sup i s h
    obtain ⟨n, rfl⟩ := Int.eq_ofNat_of_zero_le h1
    exact List.mem_map.2 ⟨n, List.mem_range.2 (by omega), rfl⟩
  have e1 : D.kept ((List.range D.lasts.length).map fun (i : Nat) => (i : Int)) = D.waits := by
    funext i
    unfold kept
    by_cases h : i ∈ (List.range D.lasts.length).map fun (i : Nat) => (i : Int)
    · rw [if_pos h]
    · rw [if_neg h]
      cases hw : D.waits i with
      | none => rfl
      | some s => exact absurd (hm i s hw) h
  have e2 : (fun i => if i ∈ (List.range D.lasts.length).map (fun (i : Nat) => (i : Int)) then none else D.waits i) = fun _ => none := by
    funext i
    by_cases h : i ∈ (List.range D.lasts.length).map fun (i : Nat) => (i : Int)
    · rw [if_pos h]
    · rw [if_neg h]
      cases hw : D.waits i with
      | none => rfl
      | some s => exact absurd (hm i s hw) h
  rw [e1, e2]
theorem Ok.settle {D : DiskS} (ok : D.Ok) (l : List Int) : (D.settle l).Ok :=
  ⟨by simpa using ok.some, by simpa using ok.size, fun i s h => by
    simp only [DiskS.settle] at h
    split at h
    · cases h
    · simpa using ok.sup i s h, ok.arm0, ok.arm1⟩
theorem Ok.lay1 {D : DiskS} (ok : D.Ok) (n : Nat) (s : Sec) : (D.lay1 n s).Ok := ⟨by simpa [DiskS.lay1] using ok.some, by simpa [DiskS.lay1] using ok.size, by simpa [DiskS.lay1] using ok.sup, ok.arm0, ok.arm1⟩
theorem Ok.drop1 {D : DiskS} (ok : D.Ok) (n : Nat) : (D.drop1 n).Ok :=
  ⟨ok.some, ok.size, fun i s h => by
    simp only [DiskS.drop1] at h
    split at h
    · cases h
    · exact ok.sup i s h, ok.arm0, ok.arm1⟩
/-- The list of the first numbers. -/
def upto (n : Nat) : List Int := (List.range n).map fun (i : Nat) => (i : Int)
theorem upto_succ (n : Nat) : upto (n + 1) = upto n ++ [(n : Int)] := by simp [upto, List.range_succ]
end Go.Cib.DiskS
namespace Go.Proofs.Ytpfgjopiddopbaa
open Go.RowKit Go.Cib

theorem RefAt.lay1 {w : World} {r L W H : Nat} {D : DiskS} (h : RefAt w r L W H D) (n : Nat) (s : Sec) : RefAt (w.drew.setRow L (secsA (D.lasts.set n s))) r L W H (D.lay1 n s) := by
  have ht : Tch [L] w (w.drew.setRow L (secsA (D.lasts.set n s))) := (Tch.refl _ _).drew.setRow (.inl (by simp)) _
  obtain ⟨ws, g1, g2, g3⟩ := h.hW
  have hl : (D.lay1 n s).lasts.length = D.lasts.length := by simp [DiskS.lay1]
  have hh : hasA (D.lay1 n s) = hasA D := by unfold hasA; rw [hl]; rfl
  refine ⟨?_, setRow_heap _ _ _ _ _ _ h.hL, ⟨ws, ht.heap g1 (by simpa using h.d4.symm), by rw [hl]; exact g2, g3⟩, by rw [hh]; exact ht.heap h.hH (by simpa using h.d5.symm), h.d1, h.d2, h.d3, h.d4, h.d5, h.d6, h.ok.lay1 n s⟩
  rw [hl]
  exact ht.heap h.hr (by simpa using h.d1)
theorem RefAt.drop1 {w : World} {r L W H : Nat} {D : DiskS} (h : RefAt w r L W H D) (n : Nat) : RefAt (w.setCell ⟨H, n, none⟩ (.bool false)) r L W H (D.drop1 n) := by
  have ht : Tch [H] w (w.setCell ⟨H, n, none⟩ (.bool false)) := (Tch.refl _ _).setCell (by simp) _
  obtain ⟨ws, g1, g2, g3⟩ := h.hW
  refine ⟨ht.heap h.hr (by simpa using h.d3), ht.heap h.hL (by simpa using h.d5), ⟨ws, ht.heap g1 (by simpa using h.d6), g2, fun i s hi => ?_⟩, ?_, h.d1, h.d2, h.d3, h.d4, h.d5, h.d6, h.ok.drop1 n⟩
  · simp only [DiskS.drop1] at hi
    split at hi
    · cases hi
    · exact g3 i s hi
  · rw [heap_setCell_cells h.hH]
    rw [hasA_set D (D.drop1 n) n false rfl (by simp [DiskS.drop1]) (fun j hj => by
      have : ¬ ((j : Int) = (n : Int)) := by omega
      simp [DiskS.drop1, this])]

set_option maxRecDepth 20000 in
set_option maxHeartbeats 1000000 in
theorem refRead_any {w : World} {r L W H : Nat} {D : DiskS} (h : RefAt w r L W H D) (i : Int) :
    Calls Try.prog 35 #[.pointer (some ⟨r, 0, none⟩), .int .i64 i] w fun e w' =>
      e = .returned (.tuple #[.agg (secA (D.read i).1), .int .i64 (D.read i).2]) ∧ Tch [] w w' := by
  obtain ⟨W1, hW1⟩ : ∃ W1, W1 = w.alloc (.cells (secA (Arr.zero : Sec)) 33) := ⟨_, rfl⟩
  have h1 : RefAt W1 r L W H D := by rw [hW1]; exact h.touch ((Tch.refl [] w).alloc _) (by simp) (by simp) (by simp) (by simp)
  have hb1 : W1.heap[w.heap.size]? = some (.cells (secA (Arr.zero : Sec)) 33) := by rw [hW1]; exact heap_alloc_new w _
  have t1 : Tch [] w W1 := by rw [hW1]; exact (Tch.refl _ _).alloc _
  have fin : ∀ W, Tch [w.heap.size] W1 W → Tch [] w W := fun W ht => tch_own t1 ht (by simp)
  have c0 := cell_of_row W1 r 0 _ _ _ h1.hr
  have c1 := cell_of_row W1 r 1 _ _ _ h1.hr
  have c2 := cell_of_row W1 r 2 _ _ _ h1.hr
  have c3 := cell_of_row W1 r 3 _ _ _ h1.hr
  simp only [List.getElem?_toArray, List.getElem?_cons_zero, List.getElem?_cons_succ] at c0 c1 c2 c3
  have HB1 := Lib.hid hb1
  have FIN := Lib.hid fin
  have HW1 := Lib.hid hW1
  have H1 := Lib.hid h1
  clear h h1 hb1 t1 hW1 fin
  by_cases hm : D.may i = 0
  · obtain ⟨m1, m2, m3⟩ := may_in hm
    obtain ⟨n, rfl⟩ := Int.eq_ofNat_of_zero_le m2
    have hn : n < D.lasts.length := by omega
    have e1 : D.read n = (D.at_ n, 0) := by unfold DiskS.read; rw [if_pos hm]
    have E1 := Lib.hid e1
    have m4 : ¬ (D.lasts.length : Int) ≤ n := by omega
    rw [m1] at c3
    have cH := cell_of_row W1 H n _ _ _ H1.out.hH
    rw [hasA_get _ n hn] at cH
    have hx : D.lasts[n]? = some (D.lasts.getD n Arr.zero) := by simp [hn]
    have HX := Lib.hid hx
    obtain ⟨ws, g1, g2, g3⟩ := H1.out.hW
    have G1 := Lib.hid g1
    have G3 := Lib.hid g3
    have HL := Lib.hid H1.out.hL
    have gn : n < ws.length := by omega
    clear hm e1 hx g1 g2 g3 m1 m2 m3
    cases hw : D.waits n with
    | some t =>
      have hs : (D.waits n).isSome = true := by rw [hw]; rfl
      have e2 : D.at_ n = t := by unfold DiskS.at_; rw [hw]; rfl
      have E2 := Lib.hid e2
      have G4 := Lib.hid (G3.out n t hw)
      rw [hs] at cH
      clear hw e2 hs
      go_enter Try.func35, Try.ntmps35
      go_wp2_with (first | ((with_reducible refine wc_alloc_arr secT ?_); rw [← HW1.out]; go_frame) | ((with_reducible apply wc_load_row secT G1.out G4.out); exact rfl; go_frame) | ((with_reducible apply wc_store_var secT HB1.out); exact rfl; exact rfl; go_frame))
      refine bodyPost_ret (res_cell_tmp secT.agg rfl _ rfl (setRow_heap _ _ _ _ _ _ HB1.out) (size_secA _)) rfl ?_
      rw [E1.out, E2.out]
      exact ⟨rfl, FIN.out _ ((Tch.refl _ _).setRow (.inl (by simp)) _)⟩
    | none =>
      have hs : (D.waits n).isSome = false := by rw [hw]; rfl
      have e2 : D.at_ n = D.lasts.getD n Arr.zero := by unfold DiskS.at_; rw [hw]; rfl
      obtain ⟨u, hu⟩ : ∃ u, D.lasts.getD n Arr.zero = u := ⟨_, rfl⟩
      rw [hu] at e2 HX
      have E2 := Lib.hid e2
      rw [hs] at cH
      clear hw e2 hs hu
      go_enter Try.func35, Try.ntmps35
      go_wp2_with (first | ((with_reducible refine wc_alloc_arr secT ?_); rw [← HW1.out]; go_frame) | ((with_reducible apply wc_load_row secT HL.out HX.out); exact rfl; go_frame) | ((with_reducible apply wc_store_var secT HB1.out); exact rfl; exact rfl; go_frame))
      refine bodyPost_ret (res_cell_tmp secT.agg rfl _ rfl (setRow_heap _ _ _ _ _ _ HB1.out) (size_secA _)) rfl ?_
      rw [E1.out, E2.out]
      exact ⟨rfl, FIN.out _ ((Tch.refl _ _).setRow (.inl (by simp)) _)⟩
  · have e1 : D.read i = (Arr.zero, D.may i) := by unfold DiskS.read; rw [if_neg hm]
    have E1 := Lib.hid e1
    have HN := Lib.hid hm
    clear e1 hm c1 c2 H1
    unfold DiskS.may at E1 HN
    generalize D.lasts.length = n at *
    cases hdd : D.dead with
    | true =>
      rw [hdd] at c3 E1
      clear hdd
      go_enter Try.func35, Try.ntmps35
      go_wp2_with (first | ((with_reducible refine wc_alloc_arr secT ?_); rw [← HW1.out]; go_frame) | ((with_reducible apply wc_build_arr secT); exact rfl; go_frame) | ((with_reducible apply wc_store_var secT HB1.out); exact rfl; exact rfl; go_frame))
      refine bodyPost_ret (res_cell_tmp secT.agg rfl _ rfl (setRow_heap _ _ _ _ _ _ HB1.out) (size_secA _)) rfl ?_
      rw [E1.out]
      exact ⟨rfl, FIN.out _ ((Tch.refl _ _).setRow (.inl (by simp)) _)⟩
    | false =>
      rw [hdd] at c3 E1 HN
      clear hdd
      by_cases h0 : i < 0
      · rw [if_neg (by simp), if_pos h0] at E1
        go_enter Try.func35, Try.ntmps35
        go_wp2_with (first | ((with_reducible refine wc_alloc_arr secT ?_); rw [← HW1.out]; go_frame) | ((with_reducible apply wc_build_arr secT); exact rfl; go_frame) | ((with_reducible apply wc_store_var secT HB1.out); exact rfl; exact rfl; go_frame))
        refine bodyPost_ret (res_cell_tmp secT.agg rfl _ rfl (setRow_heap _ _ _ _ _ _ HB1.out) (size_secA _)) rfl ?_
        rw [E1.out]
        exact ⟨rfl, FIN.out _ ((Tch.refl _ _).setRow (.inl (by simp)) _)⟩
      · by_cases h2 : (n : Int) ≤ i
        · rw [if_neg (by simp), if_neg h0, if_pos h2] at E1
          go_enter Try.func35, Try.ntmps35
          go_wp2_with (first | ((with_reducible refine wc_alloc_arr secT ?_); rw [← HW1.out]; go_frame) | ((with_reducible apply wc_build_arr secT); exact rfl; go_frame) | ((with_reducible apply wc_store_var secT HB1.out); exact rfl; exact rfl; go_frame))
          refine bodyPost_ret (res_cell_tmp secT.agg rfl _ rfl (setRow_heap _ _ _ _ _ _ HB1.out) (size_secA _)) rfl ?_
          rw [E1.out]
          exact ⟨rfl, FIN.out _ ((Tch.refl _ _).setRow (.inl (by simp)) _)⟩
        · exfalso
          rw [if_neg (by simp), if_neg h0, if_neg h2] at HN
          exact HN.out rfl
end Go.Proofs.Ytpfgjopiddopbaa
