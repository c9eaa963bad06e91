/-
  The document's own disk in memory: Write, Read.
-/
import Derived.Test.YtpfgjopiddopbaaRef1
namespace Go.Proofs.Ytpfgjopiddopbaa
open Go.RowKit Go.Cib

theorem hasA_set (D D' : DiskS) (i : Nat) (b : Bool) (hl : D'.lasts.length = D.lasts.length) (hi : (D'.waits (i : Int)).isSome = b) (ho : ∀ j : Nat, j ≠ i → (D'.waits (j : Int)).isSome = (D.waits (j : Int)).isSome) :
    (hasA D).setIfInBounds i (.bool b) = hasA D' := by
  apply Array.ext
  · simp [hasA, hl]
  · intro j h1 h2
    simp only [hasA, List.setIfInBounds_toArray, List.getElem_toArray, List.getElem_set, List.getElem_map, List.getElem_range]
    by_cases e : i = j
    · subst e; simp [hi]
    · rw [if_neg e, ho j (fun h => e h.symm)]

theorem may_in {D : DiskS} {i : Int} (h : D.may i = 0) : D.dead = false ∧ 0 ≤ i ∧ i < D.lasts.length := by
  unfold DiskS.may at h
  cases hd : D.dead with
  | true => simp [hd] at h
  | false =>
    simp only [hd, Bool.false_eq_true, if_false] at h
    refine ⟨rfl, ?_, ?_⟩
    · by_cases h0 : i < 0
      · simp [h0] at h
      · omega
    · by_cases h0 : i < 0
      · simp [h0] at h
      · by_cases h1 : (D.lasts.length : Int) ≤ i
        · simp [h0, h1] at h
        · omega

set_option maxRecDepth 20000 in
set_option maxHeartbeats 1000000 in
theorem refWrite_any {w : World} {r L W H : Nat} {D : DiskS} (h : RefAt w r L W H D) (i : Int) (s : Sec) :
    Calls Try.prog 33 #[.pointer (some ⟨r, 0, none⟩), .int .i64 i, .agg (secA s)] w fun e w' =>
      e = .returned (.int .i64 (D.write i s).1) ∧ RefAt w' r L W H (D.write i s).2 ∧ Tch [r, L, W, H] w w' := by
  have h1 : RefAt (w.alloc (.cells (secA s) 33)) r L W H D := h.touch ((Tch.refl [] w).alloc _) (by simp) (by simp) (by simp) (by simp)
  have c0 := cell_of_row w r 0 _ _ _ h.hr
  have c3 := cell_of_row w r 3 _ _ _ h.hr
  have c5 := cell_of_row w r 5 _ _ _ h.hr
  have f5 := frozen_of_row w r 5 _ _ h.hr
  simp only [List.getElem?_toArray, List.getElem?_cons_zero, List.getElem?_cons_succ] at c0 c3 c5
  have rlt := lt_of_heap h.hr
  have HH := Lib.hid h
  have H1 := Lib.hid h1
  clear h h1
  by_cases hm : D.may i = 0
  · obtain ⟨m1, m2, m3⟩ := may_in hm
    obtain ⟨n, rfl⟩ := Int.eq_ofNat_of_zero_le m2
    have hn : n < D.lasts.length := by omega
    have HM := Lib.hid hm
    have M1 := Lib.hid m1
    rw [m1] at c3
    clear hm m1
    have m4 : ¬ (D.lasts.length : Int) ≤ n := by omega
    go_enter Try.func33, Try.ntmps33
    go_wp2_with fail
    obtain ⟨W2, hW2⟩ : ∃ W2, W2 = ((w.setCell ⟨r, 5, none⟩ (.int .i64 (wrap64 (D.writes + 1)))).alloc (.cells (secA s) 33)) := ⟨_, rfl⟩
    rw [← hW2]
    have h2 : RefAt W2 r L W H { D with writes := wrap64 (D.writes + 1) } := by
      have hh : RefAt (w.setCell ⟨r, 5, none⟩ (.int .i64 (wrap64 (D.writes + 1)))) r L W H { D with writes := wrap64 (D.writes + 1) } :=
        HH.out.head ((Tch.refl _ _).setCell (by simp) _) rfl rfl ⟨HH.out.ok.some, HH.out.ok.size, HH.out.ok.sup, HH.out.ok.arm0, HH.out.ok.arm1⟩ (by rw [heap_setCell_cells HH.out.hr _ _]; rfl)
      rw [hW2]
      exact hh.touch ((Tch.refl [] _).alloc _) (by simp) (by simp) (by simp) (by simp)
    have hb2 : W2.drew.heap[w.heap.size]? = some (.cells (secA s) 33) := by
      rw [heap_drew, hW2, heap_alloc, if_pos (by simp)]
    have t2 : Tch [r, L, W, H] w W2 := by rw [hW2]; exact ((Tch.refl _ _).setCell (by simp) _).alloc _
    clear hW2 c0 c3 c5 f5 m2 m3 m4
    have c1 := cell_of_row W2.drew r 1 _ _ _ h2.hr
    simp only [List.getElem?_toArray, List.getElem?_cons_zero, List.getElem?_cons_succ] at c1
    obtain ⟨ws, hw1, hw2, hw3⟩ := h2.hW
    have hnw : n < ws.length := by rw [hw2]; exact hn
    have H2 := Lib.hid h2
    have HB2 := Lib.hid hb2
    have T2 := Lib.hid t2
    have HW1 := Lib.hid hw1
    have HW2 := Lib.hid hw2
    have HW3 := Lib.hid hw3
    clear h2 hb2 t2 hw1 hw2 hw3 H1
    refine wp_region_still_tail 7 (by kernel_rfl) (by kernel_rfl) ?_
    simp only [List.take_succ_cons, List.take_zero, List.drop_succ_cons, List.drop_zero]
    still_step; still_step; still_step; still_step; still_step
    apply ws_load_var secT (w := W2.drew) HB2.out
    · exact rfl
    go_frame
    still_step
    refine wpStill_nil ?_
    apply wc_store_row secT (w := W2.drew) HW1.out hnw
    · exact rfl
    · exact rfl
    go_frame
    obtain ⟨W3, hW3⟩ : ∃ W3, W3 = W2.drew.setRow W (secsA (ws.set n s)) := ⟨_, rfl⟩
    rw [← hW3]
    have t3 : Tch [W] W2 W3 := by rw [hW3]; exact (Tch.refl _ _).drew.setRow (.inl (by simp)) _
    have hr3 := t3.heap H2.out.hr (by simpa using H2.out.d2)
    have hL3 := t3.heap H2.out.hL (by simpa using H2.out.d4)
    have hH3 := t3.heap H2.out.hH (by simpa using H2.out.d6.symm)
    have hW3' : W3.heap[W]? = some (.cells (secsA (ws.set n s)) 33) := by rw [hW3]; exact setRow_heap _ _ _ _ _ _ HW1.out
    have c2 := cell_of_row W3 r 2 _ _ _ hr3
    have cH := cell_of_row W3 H n _ _ _ hH3
    have fH := frozen_of_row W3 H n _ _ hH3
    rw [hasA_get _ n (by simpa using hn)] at cH
    simp only [List.getElem?_toArray, List.getElem?_cons_zero, List.getElem?_cons_succ] at c2
    have h4 : RefAt (W3.setCell ⟨H, n, none⟩ (.bool true)) r L W H (D.put n s) := by
      have t4 : Tch [H] W3 (W3.setCell ⟨H, n, none⟩ (.bool true)) := (Tch.refl _ _).setCell (by simp) _
      refine ⟨t4.heap hr3 (by simpa using H2.out.d3), t4.heap hL3 (by simpa using H2.out.d5), ⟨ws.set n s, t4.heap hW3' (by simpa using H2.out.d6), by rw [List.length_set]; exact HW2.out, fun j u hj => ?_⟩, ?_, H2.out.d1, H2.out.d2, H2.out.d3, H2.out.d4, H2.out.d5, H2.out.d6, HH.out.ok.put HM.out⟩
      · simp only [DiskS.put] at hj
        by_cases e : j = n
        · subst e; simp at hj; subst hj; simp [hnw]
        · have : ¬ ((j : Int) = (n : Int)) := by omega
          rw [if_neg this] at hj
          rw [List.getElem?_set_ne (Ne.symm e)]
          exact HW3.out j u hj
      · rw [heap_setCell_cells hH3]
        rw [hasA_set _ (D.put n s) n true (by rfl) (by simp [DiskS.put]) (fun j hj => by
          have : ¬ ((j : Int) = (n : Int)) := by omega
          simp [DiskS.put, this])]
    have T4 : Tch [r, L, W, H] w (W3.setCell ⟨H, n, none⟩ (.bool true)) := (T2.out.trans (t3.mono (by simp))).setCell (.inl (by simp)) _
    have H4 := Lib.hid h4
    have T4' := Lib.hid T4
    have e1 : D.write n s = (if D.went = true then 6 else 0, (D.put n s).goes) := by unfold DiskS.write; rw [if_pos HM.out]
    have E1 := Lib.hid e1
    clear hW3 t3 hr3 hL3 hH3 hW3' h4 T4 c1 e1
    have hw' : (D.put n s).went = D.went := rfl
    have M2 : Hid ((D.put n s).dead = false) := M1.out
    cases hgo : D.went with
    | true =>
      rw [hgo] at hw'
      have HG := Lib.hid hgo
      have HG2 := Lib.hid hw'
      clear hgo hw'
      go_wp2_with (go_at_call 43; refine (refGoes_any H4.out M2.out).mono ?_; rintro e w' ⟨rfl, hq1, hq2⟩; rw [HG2.out]; have HQ1 := Lib.hid hq1; have HQ2 := Lib.hid hq2; clear hq1 hq2)
      go_ret
      rw [E1.out, HG.out]
      exact ⟨rfl, HQ1.out, T4'.out.trans (HQ2.out.mono (by simp))⟩
    | false =>
      rw [hgo] at hw'
      have HG := Lib.hid hgo
      have HG2 := Lib.hid hw'
      clear hgo hw'
      go_wp2_with (go_at_call 43; refine (refGoes_any H4.out M2.out).mono ?_; rintro e w' ⟨rfl, hq1, hq2⟩; rw [HG2.out]; have HQ1 := Lib.hid hq1; have HQ2 := Lib.hid hq2; clear hq1 hq2)
      go_ret
      rw [E1.out, HG.out]
      exact ⟨rfl, HQ1.out, T4'.out.trans (HQ2.out.mono (by simp))⟩
  · have e1 : D.write i s = (D.may i, D) := by unfold DiskS.write; rw [if_neg hm]
    have E1 := Lib.hid e1
    have HN := Lib.hid hm
    clear e1 hm
    unfold DiskS.may at E1 HN
    generalize D.lasts.length = n at *
    cases hdd : D.dead with
    | true =>
      rw [hdd] at c3 E1
      clear hdd
      go_enter Try.func33, Try.ntmps33
      go_wp2
      go_ret
      rw [E1.out]
      exact ⟨rfl, H1.out, (Tch.refl _ _).alloc _⟩
    | false =>
      rw [hdd] at c3 E1 HN
      clear hdd
      by_cases h0 : i < 0
      · rw [if_neg (by simp), if_pos h0] at E1
        go_enter Try.func33, Try.ntmps33
        go_wp2
        go_ret
        rw [E1.out]
        exact ⟨rfl, H1.out, (Tch.refl _ _).alloc _⟩
      · by_cases h2 : (n : Int) ≤ i
        · rw [if_neg (by simp), if_neg h0, if_pos h2] at E1
          go_enter Try.func33, Try.ntmps33
          go_wp2
          go_ret
          rw [E1.out]
          exact ⟨rfl, H1.out, (Tch.refl _ _).alloc _⟩
        · exfalso
          rw [if_neg (by simp), if_neg h0, if_neg h2] at HN
          exact HN.out rfl
end Go.Proofs.Ytpfgjopiddopbaa
