/-
  What each function of package disk does to a disk in memory: may, goes, Write, Read.
-/
import Derived.Test.YtkjgbhpnlgcinaaGreatDoorRows
import Derived.Test.YtkjgbhpnlgcinaaGreatDoorMC
import Derived.StillTailTactics
import Derived.Lib.Hide
namespace Go.Proofs.YtkjgbhpnlgcinaaGreatDoor
open Go.RowKit Go.Cib

theorem secT : BytesT Tryz.prog 124 512 :=
  .of (E := 5) (by kernel_rfl) (by kernel_rfl) (by kernel_rfl) (by kernel_rfl) (by kernel_rfl)

theorem keyI : KeyT Tryz.prog 3 kInt := keyT_int (by kernel_rfl)
theorem uMapSec : Tryz.prog.underlying 115 = some (.map 3 124) := by kernel_rfl

/-- Block d holds a disk whose sectors lie in block L and whose cache is the map M. -/
structure DiskAt (w : World) (d L M : Nat) (D : DiskS) : Prop where
  hd : w.heap[d]? = some (.cells #[.slice (some ⟨L, 0, none⟩) D.lasts.length D.lasts.length, .map (some M), .bool D.dead, .int .i64 D.armed, .int .i64 D.writes, .int .i64 D.flushes] 117)
  hL : w.heap[L]? = some (.cells (secsA D.lasts) 124)
  hM : MapAt kInt w M (fun i => (D.waits i).map fun s => .agg (secA s))
  dL : d ≠ L
  dM : d ≠ M
  LM : L ≠ M
  ok : D.Ok

theorem DiskAt.touch {w w' : World} {d L M : Nat} {D : DiskS} {S : List Nat} (h : DiskAt w d L M D) (ht : Tch S w w') (h1 : d ∉ S) (h2 : L ∉ S) (h3 : M ∉ S) : DiskAt w' d L M D :=
  ⟨ht.heap h.hd h1, ht.heap h.hL h2, h.hM.touch ht h3, h.dL, h.dM, h.LM, h.ok⟩

set_option maxRecDepth 20000 in
set_option maxHeartbeats 400000 in
theorem may_any {w : World} {d L M : Nat} {D : DiskS} (h : DiskAt w d L M D) (i : Int) :
    Calls Tryz.prog 113 #[.pointer (some ⟨d, 0, none⟩), .int .i64 i] w fun e w' => e = .returned (.int .i64 (D.may i)) ∧ w = w' := by
  have c0 := cell_of_row w d 0 _ _ _ h.hd
  have c2 := cell_of_row w d 2 _ _ _ h.hd
  simp only [List.getElem?_toArray, List.getElem?_cons_zero, List.getElem?_cons_succ] at c0 c2
  unfold DiskS.may
  generalize D.lasts.length = n at *
  generalize D.dead = dead at *
  clear h
  cases dead with
  | true =>
    go_enter Tryz.func113, Tryz.ntmps113
    go_wp2
    go_ret
    exact ⟨rfl, rfl⟩
  | false =>
    by_cases h0 : i < 0
    · go_enter Tryz.func113, Tryz.ntmps113
      go_wp2
      go_ret
      exact ⟨rfl, rfl⟩
    · by_cases h1 : (n : Int) ≤ i
      · go_enter Tryz.func113, Tryz.ntmps113
        go_wp2
        go_ret
        exact ⟨rfl, rfl⟩
      · go_enter Tryz.func113, Tryz.ntmps113
        go_wp2
        go_ret
        exact ⟨rfl, rfl⟩

/-- Only the head was written. -/
theorem DiskAt.head {w w' : World} {d L M : Nat} {D D' : DiskS} (h : DiskAt w d L M D) (ht : Tch [d] w w') (hl : D'.lasts = D.lasts) (hw : D'.waits = D.waits) (ok : D'.Ok)
    (hd : w'.heap[d]? = some (.cells #[.slice (some ⟨L, 0, none⟩) D'.lasts.length D'.lasts.length, .map (some M), .bool D'.dead, .int .i64 D'.armed, .int .i64 D'.writes, .int .i64 D'.flushes] 117)) : DiskAt w' d L M D' :=
  ⟨hd, by rw [hl]; exact ht.heap h.hL (by simpa using h.dL.symm), by rw [hw]; exact h.hM.touch ht (by simpa using h.dM.symm), h.dL, h.dM, h.LM, ok⟩

set_option maxRecDepth 20000 in
set_option maxHeartbeats 400000 in
theorem goes_any {w : World} {d L M : Nat} {D : DiskS} (h : DiskAt w d L M D) :
    Calls Tryz.prog 114 #[.pointer (some ⟨d, 0, none⟩)] w fun e w' => e = .returned (.bool D.went) ∧ DiskAt w' d L M D.goes ∧ Tch [d] w w' := by
  have c2 := cell_of_row w d 2 _ _ _ h.hd
  have c3 := cell_of_row w d 3 _ _ _ h.hd
  have f2 := frozen_of_row w d 2 _ _ h.hd
  have f3 := frozen_of_row w d 3 _ _ h.hd
  simp only [List.getElem?_toArray, List.getElem?_cons_zero, List.getElem?_cons_succ] at c2 c3
  have a0 := h.ok.arm0
  have a1 := h.ok.arm1
  have H := Lib.hid h
  have ha : ∃ armed, D.armed = armed := ⟨_, rfl⟩
  obtain ⟨armed, ha⟩ := ha
  rw [ha] at c3 a0 a1
  have HA := Lib.hid ha
  clear h ha
  by_cases h0 : armed = 0
  · subst h0
    go_enter Tryz.func114, Tryz.ntmps114
    go_wp2
    go_ret
    have e1 : D.goes = D := by unfold DiskS.goes; rw [if_pos HA.out]
    rw [e1]
    exact ⟨by unfold DiskS.went; rw [HA.out]; rfl, H.out, Tch.refl _ _⟩
  · have h1 : (armed == 0) = false := by simpa using h0
    go_enter Tryz.func114, Tryz.ntmps114
    go_wp2
    go_ret
    have e2 : (armed - 1 == 0) = D.went := by
      unfold DiskS.went; rw [HA.out, Bool.eq_iff_iff]; simp; omega
    have ht : Tch [d] w ((w.setCell ⟨d, 3, none⟩ (.int .i64 (armed - 1))).setCell ⟨d, 2, none⟩ (.bool (armed - 1 == 0))) := ((Tch.refl _ _).setCell (by simp) _).setCell (by simp) _
    refine ⟨by rw [← e2]; rfl, H.out.head ht ?_ ?_ H.out.ok.goes ?_, ht⟩
    · unfold DiskS.goes; split <;> rfl
    · unfold DiskS.goes; split <;> rfl
    · rw [heap_setCell_cells (heap_setCell_cells H.out.hd _ _) _ _, e2]
      unfold DiskS.goes
      rw [HA.out, if_neg h0]
      simp [DiskS.went, HA.out]
end Go.Proofs.YtkjgbhpnlgcinaaGreatDoor
/-
  What each function of package disk does to a disk in memory: Write, Read.
-/
namespace Go.Proofs.YtkjgbhpnlgcinaaGreatDoor
open Go.RowKit Go.Cib

set_option maxRecDepth 20000 in
set_option maxHeartbeats 400000 in
theorem write_any {w : World} {d L M : Nat} {D : DiskS} (h : DiskAt w d L M D) (i : Int) (s : Sec) :
    Calls Tryz.prog 66 #[.pointer (some ⟨d, 0, none⟩), .int .i64 i, .agg (secA s)] w fun e w' =>
      e = .returned (.int .i64 (D.write i s).1) ∧ DiskAt w' d L M (D.write i s).2 ∧ Tch [d, L, M] w w' := by
  have h1 : DiskAt (w.alloc (.cells (secA s) 124)) d L M D := h.touch ((Tch.refl [] w).alloc _) (by simp) (by simp) (by simp)
  have dlt := lt_of_heap h.hd
  have H := Lib.hid h
  have H1 := Lib.hid h1
  clear h h1
  by_cases hm : D.may i = 0
  · have HM := Lib.hid hm
    have hm' : (D.may i != 0) = false := by simp [hm]
    have c1 := cell_of_row w d 1 _ _ _ H.out.hd
    have c4 := cell_of_row w d 4 _ _ _ H.out.hd
    have f4 := frozen_of_row w d 4 _ _ H.out.hd
    simp only [List.getElem?_toArray, List.getElem?_cons_zero, List.getElem?_cons_succ] at c1 c4
    clear hm
    go_enter Tryz.func66, Tryz.ntmps66
    go_wp2_with (go_at_call 113; refine (may_any H1.out i).mono ?_; rintro e w' ⟨rfl, rfl⟩)
    obtain ⟨W2, hW2⟩ : ∃ W2, W2 = ((w.setCell ⟨d, 4, none⟩ (.int .i64 (wrap64 (D.writes + 1)))).alloc (.cells (secA s) 124)) := ⟨_, rfl⟩
    rw [← hW2]
    have h2 : DiskAt W2 d L M { D with writes := wrap64 (D.writes + 1) } := by
      have hh : DiskAt (w.setCell ⟨d, 4, none⟩ (.int .i64 (wrap64 (D.writes + 1)))) d L M { D with writes := wrap64 (D.writes + 1) } :=
        H.out.head ((Tch.refl _ _).setCell (by simp) _) rfl rfl ⟨H.out.ok.some, H.out.ok.size, H.out.ok.sup, H.out.ok.arm0, H.out.ok.arm1⟩ (by rw [heap_setCell_cells H.out.hd _ _]; rfl)
      rw [hW2]
      exact hh.touch ((Tch.refl [] _).alloc _) (by simp) (by simp) (by simp)
    have hb2 : W2.heap[w.heap.size]? = some (.cells (secA s) 124) := by
      rw [hW2, heap_alloc, if_pos (by simp)]
    have t2 : Tch [d, L, M] w W2 := by rw [hW2]; exact ((Tch.refl _ _).setCell (by simp) _).alloc _
    clear hW2 c1 c4 f4 hm'
    have c1 := cell_of_row W2.drew d 1 _ _ _ h2.hd
    simp only [List.getElem?_toArray, List.getElem?_cons_zero, List.getElem?_cons_succ] at c1
    have H2 := Lib.hid h2
    have HB2 := Lib.hid hb2
    have T2 := Lib.hid t2
    clear h2 hb2 t2
    refine wp_region_still_tail 6 (by kernel_rfl) (by kernel_rfl) ?_
    simp only [List.take_succ_cons, List.take_zero, List.drop_succ_cons, List.drop_zero]
    still_step; still_step; still_step; still_step; still_step
    refine ws_load_var secT (w := W2.drew) HB2.out rfl ?_
    refine wpStill_nil ?_
    refine wc_mapUpdate keyI uMapSec (w := W2.drew) H2.out.hM rfl rfl rfl (fun W3 t3 h3 => ?_)
    have h4 : DiskAt W3 d L M (D.put i s) := by
      refine ⟨t3.heap H2.out.hd (by simpa using H.out.dM), t3.heap H2.out.hL (by simpa using H.out.LM), ?_, H.out.dL, H.out.dM, H.out.LM, H.out.ok.put HM.out⟩
      have e : (fun j => ((D.put i s).waits j).map fun s => Value.agg (secA s)) = upd (fun j => (D.waits j).map fun s => Value.agg (secA s)) i (.agg (secA s)) := by
        funext j
        simp only [DiskS.put, upd]
        by_cases e : j = i <;> simp [e]
      rw [e]; exact h3
    have T4 : Tch [d, L, M] w W3 := T2.out.trans (((Tch.refl [] _).drew.mono (by simp)).trans (t3.mono (by simp)))
    have H4 := Lib.hid h4
    have T4' := Lib.hid T4
    clear h3 t3 h4 T4 c1
    have e1 : D.write i s = (if D.went = true then 6 else 0, (D.put i s).goes) := by unfold DiskS.write; rw [if_pos HM.out]
    have E1 := Lib.hid e1
    clear e1
    have hw' : (D.put i s).went = D.went := rfl
    cases hgo : D.went with
    | true =>
      rw [hgo] at hw'
      have HG := Lib.hid hgo
      have HG2 := Lib.hid hw'
      clear hgo hw'
      go_wp2_with (go_at_call 114; refine (goes_any H4.out).mono ?_; rintro e w' ⟨rfl, hq1, hq2⟩; rw [HG2.out]; have HQ1 := Lib.hid hq1; have HQ2 := Lib.hid hq2; clear hq1 hq2)
      go_ret
      rw [E1.out, HG.out]
      exact ⟨rfl, HQ1.out, T4'.out.trans (HQ2.out.mono (by simp))⟩
    | false =>
      rw [hgo] at hw'
      have HG := Lib.hid hgo
      have HG2 := Lib.hid hw'
      clear hgo hw'
      go_wp2_with (go_at_call 114; refine (goes_any H4.out).mono ?_; rintro e w' ⟨rfl, hq1, hq2⟩; rw [HG2.out]; have HQ1 := Lib.hid hq1; have HQ2 := Lib.hid hq2; clear hq1 hq2)
      go_ret
      rw [E1.out, HG.out]
      exact ⟨rfl, HQ1.out, T4'.out.trans (HQ2.out.mono (by simp))⟩
  · have hm' : (D.may i != 0) = true := by simp [hm]
    have e1 : D.write i s = (D.may i, D) := by unfold DiskS.write; rw [if_neg hm]
    have E1 := Lib.hid e1
    clear hm e1
    go_enter Tryz.func66, Tryz.ntmps66
    go_wp2_with (go_at_call 113; refine (may_any H1.out i).mono ?_; rintro e w' ⟨rfl, rfl⟩)
    go_ret
    rw [E1.out]
    exact ⟨rfl, H1.out, (Tch.refl _ _).alloc _⟩

theorem DiskAt.lookup {w : World} {d L M : Nat} {D : DiskS} (h : DiskAt w d L M D) {i : Int} {ops : Array Oper} {rest : List Oper} {a : Act} {Q : Exit → Act → World → Prop} {dst : Option Tmp} {ty : TypeId} {pos : String} {af : Array Edge} {m k : Operand}
    (hm : a.eval m = .map (some M)) (hk : a.eval k = .int .i64 i) (h' : wpList Tryz.prog ops Q rest (a.put dst (.tuple #[.agg (secA ((D.waits i).getD (Arr.zero : Sec))), .bool (D.waits i).isSome])) w) :
    wpList Tryz.prog ops Q (⟨dst, .lookup 115 m k true, ty, pos, af, none⟩ :: rest) a w := by
  refine wc_value rfl ?_ h'
  rw [exec_lookup rfl keyI uMapSec (secT.zero w) hm (kk := i) hk h.hM]
  cases D.waits i <;> rfl

set_option maxRecDepth 20000 in
set_option maxHeartbeats 1000000 in
theorem read_any {w : World} {d L M : Nat} {D : DiskS} (h : DiskAt w d L M D) (i : Int) :
    Calls Tryz.prog 75 #[.pointer (some ⟨d, 0, none⟩), .int .i64 i] w fun e w' =>
      e = .returned (.tuple #[.agg (secA (D.read i).1), .int .i64 (D.read i).2]) ∧ Tch [] w w' := by
  obtain ⟨W1, hW1⟩ : ∃ W1, W1 = w.alloc (.cells (secA (Arr.zero : Sec)) 124) := ⟨_, rfl⟩
  have h1 : DiskAt W1 d L M D := by rw [hW1]; exact h.touch ((Tch.refl [] w).alloc _) (by simp) (by simp) (by simp)
  have hb1 : W1.heap[w.heap.size]? = some (.cells (secA (Arr.zero : Sec)) 124) := by rw [hW1]; exact heap_alloc_new w _
  have t1 : Tch [] w W1 := by rw [hW1]; exact (Tch.refl _ _).alloc _
  have fin : ∀ W, Tch [w.heap.size] W1 W → Tch [] w W := fun W ht => ⟨ht.os.trans t1.os, ht.tape.trans t1.tape, ht.output.trans t1.output, Nat.le_trans t1.size ht.size, fun k hk _ => (ht.block k (Nat.lt_of_lt_of_le hk t1.size) (by simp; omega)).trans (t1.block k hk (by simp))⟩
  have H := Lib.hid h
  have H1 := Lib.hid h1
  have HB1 := Lib.hid hb1
  have HB2 : Hid (∀ o, (W1.alloc o).heap[w.heap.size]? = some (.cells (secA (Arr.zero : Sec)) 124)) := fun o => by rw [heap_alloc, if_neg (ne_size hb1)]; exact hb1
  have FIN := Lib.hid fin
  have HW1 := Lib.hid hW1
  clear h h1 hb1 t1 hW1 fin
  by_cases hm : D.may i = 0
  · have hm' : (D.may i != 0) = false := by simp [hm]
    have hr : 0 ≤ i ∧ i < D.lasts.length := by
      unfold DiskS.may at hm
      repeat' split at hm
      all_goals first | (exfalso; omega) | omega
    have e1 : D.read i = (D.at_ i, 0) := by unfold DiskS.read; rw [if_pos hm]
    have E1 := Lib.hid e1
    have c0 := cell_of_row W1 d 0 _ _ _ H1.out.hd
    have c1 := cell_of_row W1 d 1 _ _ _ H1.out.hd
    simp only [List.getElem?_toArray, List.getElem?_cons_zero, List.getElem?_cons_succ] at c0 c1
    have dlt : d < W1.heap.size := lt_of_heap H1.out.hd
    clear hm e1
    obtain ⟨n, rfl⟩ := Int.eq_ofNat_of_zero_le hr.1
    have hn : n < D.lasts.length := by omega
    have hx : D.lasts[n]? = some (D.lasts.getD n Arr.zero) := by simp [hn]
    have HX := Lib.hid hx
    have hB1 : w.heap.size ≠ W1.heap.size := ne_size HB1.out
    clear hx
    cases hw : D.waits n with
    | some t =>
      have hs : (D.waits n).isSome = true := by rw [hw]; rfl
      have e2 : D.at_ n = (D.waits n).getD Arr.zero := by unfold DiskS.at_; rw [hw]; rfl
      have E2 := Lib.hid e2
      clear hw e2
      go_enter Tryz.func75, Tryz.ntmps75
      go_wp2_with (first | ((with_reducible refine wc_alloc_arr secT ?_); rw [← HW1.out]; go_frame) | (go_at_call 113; refine (may_any H1.out n).mono ?_; rintro e w' ⟨rfl, rfl⟩) | ((with_reducible apply H1.out.lookup); exact rfl; exact rfl; go_frame) | ((with_reducible refine wc_alloc_arr secT ?_); go_frame; (try simp only [World.size_alloc])) | ((with_reducible apply wc_store_new secT); exact rfl; exact rfl; go_frame) | ((with_reducible apply wc_load_new secT); exact rfl; go_frame) | ((with_reducible apply wc_store_var secT (HB2.out _)); exact rfl; exact rfl; go_frame))
      refine bodyPost_ret (res_cell_tmp secT.agg rfl _ rfl (setRow_heap _ _ _ _ _ _ (HB2.out _)) (size_secA _)) rfl ?_
      rw [E1.out, E2.out]
      exact ⟨rfl, FIN.out _ (((Tch.refl _ _).alloc _).setRow (.inl (by simp)) _)⟩
    | none =>
      have hs : (D.waits n).isSome = false := by rw [hw]; rfl
      have e2 : D.at_ n = D.lasts.getD n Arr.zero := by unfold DiskS.at_; rw [hw]; rfl
      have E2 := Lib.hid e2
      clear hw e2
      have HL2 : Hid (∀ o, (W1.alloc o).heap[L]? = some (.cells (secsA D.lasts) 124)) := fun o => by rw [heap_alloc, if_neg (ne_size H1.out.hL)]; exact H1.out.hL
      go_enter Tryz.func75, Tryz.ntmps75
      go_wp2_with (first | ((with_reducible refine wc_alloc_arr secT ?_); rw [← HW1.out]; go_frame) | (go_at_call 113; refine (may_any H1.out n).mono ?_; rintro e w' ⟨rfl, rfl⟩) | ((with_reducible apply H1.out.lookup); exact rfl; exact rfl; go_frame) | ((with_reducible refine wc_alloc_arr secT ?_); go_frame; (try simp only [World.size_alloc])) | ((with_reducible apply wc_store_new secT); exact rfl; exact rfl; go_frame) | ((with_reducible apply wc_load_row secT (HL2.out _) HX.out); exact rfl; go_frame) | ((with_reducible apply wc_store_var secT (HB2.out _)); exact rfl; exact rfl; go_frame))
      refine bodyPost_ret (res_cell_tmp secT.agg rfl _ rfl (setRow_heap _ _ _ _ _ _ (HB2.out _)) (size_secA _)) rfl ?_
      rw [E1.out, E2.out]
      exact ⟨rfl, FIN.out _ (((Tch.refl _ _).alloc _).setRow (.inl (by simp)) _)⟩
  · have hm' : (D.may i != 0) = true := by simp [hm]
    have e1 : D.read i = (Arr.zero, D.may i) := by unfold DiskS.read; rw [if_neg hm]
    have E1 := Lib.hid e1
    clear hm e1
    go_enter Tryz.func75, Tryz.ntmps75
    go_wp2_with (first | ((with_reducible refine wc_alloc_arr secT ?_); rw [← HW1.out]; go_frame) | (go_at_call 113; refine (may_any H1.out i).mono ?_; rintro e w' ⟨rfl, rfl⟩) | ((with_reducible apply wc_build_arr secT); exact rfl; go_frame) | ((with_reducible apply wc_store_var secT HB1.out); exact rfl; exact rfl; go_frame))
    refine bodyPost_ret (res_cell_tmp secT.agg rfl _ rfl (setRow_heap _ _ _ _ _ _ HB1.out) (size_secA _)) rfl ?_
    rw [E1.out]
    exact ⟨rfl, FIN.out _ ((Tch.refl _ _).setRow (.inl (by simp)) _)⟩
end Go.Proofs.YtkjgbhpnlgcinaaGreatDoor
