/-
  The document's own disk in memory: New, goes, Arm, Goes, Write, Read.
-/
import Derived.Test.YthbaipljlbddcaaGreatDiskAll
import Derived.Test.YthbaipljlbddcaaGreatMemL
import Derived.Test.YthbaipljlbddcaaGreatShelf
import Derived.Lib.SliceRun
import Derived.Test.YthbaipljlbddcaaGreatRegion
namespace Go.Proofs.YthbaipljlbddcaaGreat
open Go.RowKit Go.Cib

def hasA (D : DiskS) : Array Value := ((List.range D.lasts.length).map fun (i : Nat) => Value.bool (D.waits (i : Int)).isSome).toArray
theorem size_hasA (D : DiskS) : (hasA D).size = D.lasts.length := by simp [hasA]
theorem hasA_get (D : DiskS) (i : Nat) (h : i < D.lasts.length) : (hasA D)[i]? = some (.bool (D.waits (i : Int)).isSome) := by simp [hasA, h]

/-- Block r holds the document's disk. -/
structure RefAt (w : World) (r L W H : Nat) (D : DiskS) : Prop where
  hr : w.heap[r]? = some (.cells #[.slice (some ⟨L, 0, none⟩) D.lasts.length D.lasts.length, .slice (some ⟨W, 0, none⟩) D.lasts.length D.lasts.length, .slice (some ⟨H, 0, none⟩) D.lasts.length D.lasts.length, .bool D.dead, .int .i64 D.armed, .int .i64 D.writes, .int .i64 D.flushes] 49)
  hL : w.heap[L]? = some (.cells (secsA D.lasts) 26)
  hW : ∃ ws : List Sec, w.heap[W]? = some (.cells (secsA ws) 26) ∧ ws.length = D.lasts.length ∧ ∀ (i : Nat) s, D.waits (i : Int) = some s → ws[i]? = some s
  hH : w.heap[H]? = some (.cells (hasA D) 4)
  d1 : r ≠ L
  d2 : r ≠ W
  d3 : r ≠ H
  d4 : L ≠ W
  d5 : L ≠ H
  d6 : W ≠ H
  ok : D.Ok

theorem RefAt.touch {w w' : World} {r L W H : Nat} {D : DiskS} {S : List Nat} (h : RefAt w r L W H D) (ht : Tch S w w') (h1 : r ∉ S) (h2 : L ∉ S) (h3 : W ∉ S) (h4 : H ∉ S) : RefAt w' r L W H D :=
  ⟨ht.heap h.hr h1, ht.heap h.hL h2, by obtain ⟨ws, g1, g2⟩ := h.hW; exact ⟨ws, ht.heap g1 h3, g2⟩, ht.heap h.hH h4, h.d1, h.d2, h.d3, h.d4, h.d5, h.d6, h.ok⟩
/-- Only the head was written. -/
theorem RefAt.head {w w' : World} {r L W H : Nat} {D D' : DiskS} (h : RefAt w r L W H D) (ht : Tch [r] w w') (hl : D'.lasts = D.lasts) (hw : D'.waits = D.waits) (ok : D'.Ok)
    (hr : w'.heap[r]? = some (.cells #[.slice (some ⟨L, 0, none⟩) D'.lasts.length D'.lasts.length, .slice (some ⟨W, 0, none⟩) D'.lasts.length D'.lasts.length, .slice (some ⟨H, 0, none⟩) D'.lasts.length D'.lasts.length, .bool D'.dead, .int .i64 D'.armed, .int .i64 D'.writes, .int .i64 D'.flushes] 49)) : RefAt w' r L W H D' := by
  refine ⟨hr, by rw [hl]; exact ht.heap h.hL (by simpa using h.d1.symm), ?_, ?_, h.d1, h.d2, h.d3, h.d4, h.d5, h.d6, ok⟩
  · obtain ⟨ws, g1, g2, g3⟩ := h.hW
    exact ⟨ws, ht.heap g1 (by simpa using h.d2.symm), by rw [hl]; exact g2, by rw [hw]; exact g3⟩
  · rw [show hasA D' = hasA D by unfold hasA; rw [hl, hw]]
    exact ht.heap h.hH (by simpa using h.d3.symm)

set_option maxHeartbeats 400000 in
theorem refGoes_any {w : World} {r L W H : Nat} {D : DiskS} (h : RefAt w r L W H D) (hdd : D.dead = false) :
    Calls Tryz.prog 87 #[.pointer (some ⟨r, 0, none⟩)] w fun e w' => e = .returned (.bool D.went) ∧ RefAt w' r L W H D.goes ∧ Tch [r] w w' := by
  have c3 := cell_of_row w r 3 _ _ _ h.hr
  have c4 := cell_of_row w r 4 _ _ _ h.hr
  have f3 := frozen_of_row w r 3 _ _ h.hr
  have f4 := frozen_of_row w r 4 _ _ h.hr
  simp only [List.getElem?_toArray, List.getElem?_cons_zero, List.getElem?_cons_succ] at c3 c4
  have a0 := h.ok.arm0
  have a1 := h.ok.arm1
  have HH := Lib.hid h
  obtain ⟨armed, ha⟩ : ∃ armed, D.armed = armed := ⟨_, rfl⟩
  rw [ha] at c4 a0 a1
  rw [hdd] at c3
  have HA := Lib.hid ha
  have HD := Lib.hid hdd
  clear h ha hdd
  by_cases h0 : armed = 0
  · subst h0
    go_enter Tryz.func87, Tryz.ntmps87
    go_wp2
    go_ret
    have e1 : D.goes = D := by unfold DiskS.goes; rw [if_pos HA.out]
    rw [e1]
    exact ⟨by unfold DiskS.went; rw [HA.out]; rfl, HH.out, Tch.refl _ _⟩
  · have h1 : (armed == 0) = false := by simpa using h0
    by_cases h2 : armed = 1
    · subst h2
      go_enter Tryz.func87, Tryz.ntmps87
      go_wp2
      go_ret
      have ht : Tch [r] w ((w.setCell ⟨r, 4, none⟩ (.int .i64 0)).setCell ⟨r, 3, none⟩ (.bool true)) := ((Tch.refl _ _).setCell (by simp) _).setCell (by simp) _
      refine ⟨by unfold DiskS.went; rw [HA.out]; rfl, HH.out.head ht ?_ ?_ HH.out.ok.goes ?_, ht⟩
      · unfold DiskS.goes; split <;> rfl
      · unfold DiskS.goes; split <;> rfl
      · rw [heap_setCell_cells (heap_setCell_cells HH.out.hr _ _) _ _]
        unfold DiskS.goes
        rw [HA.out, if_neg (by omega)]
        rfl
    · have h3 : (armed - 1 == 0) = false := by simp; omega
      go_enter Tryz.func87, Tryz.ntmps87
      go_wp2
      go_ret
      have ht : Tch [r] w (w.setCell ⟨r, 4, none⟩ (.int .i64 (armed - 1))) := (Tch.refl _ _).setCell (by simp) _
      have e2 : D.went = false := by unfold DiskS.went; rw [HA.out]; simp; omega
      refine ⟨by rw [e2]; rfl, HH.out.head ht ?_ ?_ HH.out.ok.goes ?_, ht⟩
      · unfold DiskS.goes; split <;> rfl
      · unfold DiskS.goes; split <;> rfl
      · rw [heap_setCell_cells HH.out.hr _ _]
        unfold DiskS.went at e2
        unfold DiskS.goes
        rw [HA.out] at e2 ⊢
        rw [if_neg h0, e2, HD.out]
        rfl

set_option maxHeartbeats 400000 in
theorem refArm_any {w : World} {r L W H : Nat} {D : DiskS} (h : RefAt w r L W H D) (n : Int) (hn : n ≤ 9223372036854775807) :
    Calls Tryz.prog 32 #[.pointer (some ⟨r, 0, none⟩), .int .i64 n] w fun e w' =>
      e = .returned (.int .i64 (D.arm n).1) ∧ RefAt w' r L W H (D.arm n).2 ∧ Tch [r] w w' := by
  have c4 := cell_of_row w r 4 _ _ _ h.hr
  have f4 := frozen_of_row w r 4 _ _ h.hr
  simp only [List.getElem?_toArray, List.getElem?_cons_zero, List.getElem?_cons_succ] at c4
  have HH := Lib.hid h
  have HO := Lib.hid (h.ok.arm n hn)
  clear h
  by_cases h0 : n < 0
  · have e1 : D.arm n = (2, D) := by unfold DiskS.arm; rw [if_pos h0]
    have E1 := Lib.hid e1
    clear e1
    go_enter Tryz.func32, Tryz.ntmps32
    go_wp2
    go_ret
    rw [E1.out]
    exact ⟨rfl, HH.out, Tch.refl _ _⟩
  · have e1 : D.arm n = (0, { D with armed := n }) := by unfold DiskS.arm; rw [if_neg h0]
    have E1 := Lib.hid e1
    clear e1
    go_enter Tryz.func32, Tryz.ntmps32
    go_wp2
    go_ret
    have ht : Tch [r] w (w.setCell ⟨r, 4, none⟩ (.int .i64 n)) := (Tch.refl _ _).setCell (by simp) _
    have ho := HO.out
    rw [E1.out] at ho ⊢
    exact ⟨rfl, HH.out.head ht rfl rfl ho (by rw [heap_setCell_cells HH.out.hr _ _]; rfl), ht⟩

set_option maxHeartbeats 400000 in
theorem refOff_any {w : World} {r L W H : Nat} {D : DiskS} (h : RefAt w r L W H D) :
    Calls Tryz.prog 34 #[.pointer (some ⟨r, 0, none⟩)] w fun e w' => e = .returned (.tuple #[]) ∧ RefAt w' r L W H D.off ∧ Tch [r] w w' := by
  have c3 := cell_of_row w r 3 _ _ _ h.hr
  have f3 := frozen_of_row w r 3 _ _ h.hr
  have c4 := cell_of_row w r 4 _ _ _ h.hr
  have f4 := frozen_of_row w r 4 _ _ h.hr
  simp only [List.getElem?_toArray, List.getElem?_cons_zero, List.getElem?_cons_succ] at c3 c4
  have HH := Lib.hid h
  clear h
  go_enter Tryz.func34, Tryz.ntmps34
  go_wp2
  go_end0
  have ht : Tch [r] w ((w.setCell ⟨r, 3, none⟩ (.bool true)).setCell ⟨r, 4, none⟩ (.int .i64 0)) := ((Tch.refl _ _).setCell (by simp) _).setCell (by simp) _
  exact ⟨rfl, HH.out.head ht rfl rfl HH.out.ok.off (by rw [heap_setCell_cells (heap_setCell_cells HH.out.hr _ _) _ _]; rfl), ht⟩
end Go.Proofs.YthbaipljlbddcaaGreat
/-
  The document's own disk in memory: Write, Read.
-/
namespace Go.Proofs.YthbaipljlbddcaaGreat
open Go.RowKit Go.Cib

theorem hasA_set (D D' : DiskS) (i : Nat) (b : Bool) (hl : D'.lasts.length = D.lasts.length) (hi : (D'.waits (i : Int)).isSome = b) (ho : ∀ j : Nat, j ≠ i → (D'.waits (j : Int)).isSome = (D.waits (j : Int)).isSome) :
    (hasA D).setIfInBounds i (.bool b) = hasA D' := by
  apply Array.ext
  · simp [hasA, hl]
  · intro j h1 h2
    simp only [hasA, List.setIfInBounds_toArray, List.getElem_toArray, List.getElem_set, List.getElem_map, List.getElem_range]
    by_cases e : i = j
    · subst e; simp [hi]
    · rw [if_neg e, ho j (fun h => e h.symm)]

theorem may_in {D : DiskS} {i : Int} (h : D.may i = 0) : D.dead = false ∧ 0 ≤ i ∧ i < D.lasts.length := by
  unfold DiskS.may at h
  cases hd : D.dead with
  | true => simp [hd] at h
  | false =>
    simp only [hd, Bool.false_eq_true, if_false] at h
    refine ⟨rfl, ?_, ?_⟩
    · by_cases h0 : i < 0
      · simp [h0] at h
      · omega
    · by_cases h0 : i < 0
      · simp [h0] at h
      · by_cases h1 : (D.lasts.length : Int) ≤ i
        · simp [h0, h1] at h
        · omega

set_option maxRecDepth 20000 in
set_option maxHeartbeats 1000000 in
theorem refWrite_any {w : World} {r L W H : Nat} {D : DiskS} (h : RefAt w r L W H D) (i : Int) (s : Sec) :
    Calls Tryz.prog 86 #[.pointer (some ⟨r, 0, none⟩), .int .i64 i, .agg (secA s)] w fun e w' =>
      e = .returned (.int .i64 (D.write i s).1) ∧ RefAt w' r L W H (D.write i s).2 ∧ Tch [r, L, W, H] w w' := by
  have h1 : RefAt (w.alloc (.cells (secA s) 26)) r L W H D := h.touch ((Tch.refl [] w).alloc _) (by simp) (by simp) (by simp) (by simp)
  have c0 := cell_of_row w r 0 _ _ _ h.hr
  have c3 := cell_of_row w r 3 _ _ _ h.hr
  have c5 := cell_of_row w r 5 _ _ _ h.hr
  have f5 := frozen_of_row w r 5 _ _ h.hr
  simp only [List.getElem?_toArray, List.getElem?_cons_zero, List.getElem?_cons_succ] at c0 c3 c5
  have rlt := lt_of_heap h.hr
  have HH := Lib.hid h
  have H1 := Lib.hid h1
  clear h h1
  by_cases hm : D.may i = 0
  · obtain ⟨m1, m2, m3⟩ := may_in hm
    obtain ⟨n, rfl⟩ := Int.eq_ofNat_of_zero_le m2
    have hn : n < D.lasts.length := by omega
    have HM := Lib.hid hm
    have M1 := Lib.hid m1
    rw [m1] at c3
    clear hm m1
    have m4 : ¬ (D.lasts.length : Int) ≤ n := by omega
    go_enter Tryz.func86, Tryz.ntmps86
    go_wp2_with fail
    obtain ⟨W2, hW2⟩ : ∃ W2, W2 = ((w.setCell ⟨r, 5, none⟩ (.int .i64 (wrap64 (D.writes + 1)))).alloc (.cells (secA s) 26)) := ⟨_, rfl⟩
    rw [← hW2]
    have h2 : RefAt W2 r L W H { D with writes := wrap64 (D.writes + 1) } := by
      have hh : RefAt (w.setCell ⟨r, 5, none⟩ (.int .i64 (wrap64 (D.writes + 1)))) r L W H { D with writes := wrap64 (D.writes + 1) } :=
        HH.out.head ((Tch.refl _ _).setCell (by simp) _) rfl rfl ⟨HH.out.ok.some, HH.out.ok.size, HH.out.ok.sup, HH.out.ok.arm0, HH.out.ok.arm1⟩ (by rw [heap_setCell_cells HH.out.hr _ _]; rfl)
      rw [hW2]
      exact hh.touch ((Tch.refl [] _).alloc _) (by simp) (by simp) (by simp) (by simp)
    have hb2 : W2.drew.heap[w.heap.size]? = some (.cells (secA s) 26) := by
      rw [heap_drew, hW2, heap_alloc, if_pos (by simp)]
    have t2 : Tch [r, L, W, H] w W2 := by rw [hW2]; exact ((Tch.refl _ _).setCell (by simp) _).alloc _
    clear hW2 c0 c3 c5 f5 m2 m3 m4
    have c1 := cell_of_row W2.drew r 1 _ _ _ h2.hr
    simp only [List.getElem?_toArray, List.getElem?_cons_zero, List.getElem?_cons_succ] at c1
    obtain ⟨ws, hw1, hw2, hw3⟩ := h2.hW
    have hnw : n < ws.length := by rw [hw2]; exact hn
    have H2 := Lib.hid h2
    have HB2 := Lib.hid hb2
    have T2 := Lib.hid t2
    have HW1 := Lib.hid hw1
    have HW2 := Lib.hid hw2
    have HW3 := Lib.hid hw3
    clear h2 hb2 t2 hw1 hw2 hw3 H1
    refine wp_region_still_tail 7 (by kernel_rfl) (by kernel_rfl) ?_
    simp only [List.take_succ_cons, List.take_zero, List.drop_succ_cons, List.drop_zero]
    still_step; still_step; still_step; still_step; still_step
    apply ws_load_var secT (w := W2.drew) HB2.out
    · exact rfl
    go_frame
    still_step
    refine wpStill_nil ?_
    apply wc_store_row secT (w := W2.drew) HW1.out hnw
    · exact rfl
    · exact rfl
    go_frame
    obtain ⟨W3, hW3⟩ : ∃ W3, W3 = W2.drew.setRow W (secsA (ws.set n s)) := ⟨_, rfl⟩
    rw [← hW3]
    have t3 : Tch [W] W2 W3 := by rw [hW3]; exact (Tch.refl _ _).drew.setRow (.inl (by simp)) _
    have hr3 := t3.heap H2.out.hr (by simpa using H2.out.d2)
    have hL3 := t3.heap H2.out.hL (by simpa using H2.out.d4)
    have hH3 := t3.heap H2.out.hH (by simpa using H2.out.d6.symm)
    have hW3' : W3.heap[W]? = some (.cells (secsA (ws.set n s)) 26) := by rw [hW3]; exact setRow_heap _ _ _ _ _ _ HW1.out
    have c2 := cell_of_row W3 r 2 _ _ _ hr3
    have cH := cell_of_row W3 H n _ _ _ hH3
    have fH := frozen_of_row W3 H n _ _ hH3
    rw [hasA_get _ n (by simpa using hn)] at cH
    simp only [List.getElem?_toArray, List.getElem?_cons_zero, List.getElem?_cons_succ] at c2
    have h4 : RefAt (W3.setCell ⟨H, n, none⟩ (.bool true)) r L W H (D.put n s) := by
      have t4 : Tch [H] W3 (W3.setCell ⟨H, n, none⟩ (.bool true)) := (Tch.refl _ _).setCell (by simp) _
      refine ⟨t4.heap hr3 (by simpa using H2.out.d3), t4.heap hL3 (by simpa using H2.out.d5), ⟨ws.set n s, t4.heap hW3' (by simpa using H2.out.d6), by rw [List.length_set]; exact HW2.out, fun j u hj => ?_⟩, ?_, H2.out.d1, H2.out.d2, H2.out.d3, H2.out.d4, H2.out.d5, H2.out.d6, HH.out.ok.put HM.out⟩
      · simp only [DiskS.put] at hj
        by_cases e : j = n
        · subst e; simp at hj; subst hj; simp [hnw]
        · have : ¬ ((j : Int) = (n : Int)) := by omega
          rw [if_neg this] at hj
          rw [List.getElem?_set_ne (Ne.symm e)]
          exact HW3.out j u hj
      · rw [heap_setCell_cells hH3]
        rw [hasA_set _ (D.put n s) n true (by rfl) (by simp [DiskS.put]) (fun j hj => by
          have : ¬ ((j : Int) = (n : Int)) := by omega
          simp [DiskS.put, this])]
    have T4 : Tch [r, L, W, H] w (W3.setCell ⟨H, n, none⟩ (.bool true)) := (T2.out.trans (t3.mono (by simp))).setCell (.inl (by simp)) _
    have H4 := Lib.hid h4
    have T4' := Lib.hid T4
    have e1 : D.write n s = (if D.went = true then 6 else 0, (D.put n s).goes) := by unfold DiskS.write; rw [if_pos HM.out]
    have E1 := Lib.hid e1
    clear hW3 t3 hr3 hL3 hH3 hW3' h4 T4 c1 e1
    have hw' : (D.put n s).went = D.went := rfl
    have M2 : Hid ((D.put n s).dead = false) := M1.out
    cases hgo : D.went with
    | true =>
      rw [hgo] at hw'
      have HG := Lib.hid hgo
      have HG2 := Lib.hid hw'
      clear hgo hw'
      go_wp2_with (go_at_call 87; refine (refGoes_any H4.out M2.out).mono ?_; rintro e w' ⟨rfl, hq1, hq2⟩; rw [HG2.out]; have HQ1 := Lib.hid hq1; have HQ2 := Lib.hid hq2; clear hq1 hq2)
      go_ret
      rw [E1.out, HG.out]
      exact ⟨rfl, HQ1.out, T4'.out.trans (HQ2.out.mono (by simp))⟩
    | false =>
      rw [hgo] at hw'
      have HG := Lib.hid hgo
      have HG2 := Lib.hid hw'
      clear hgo hw'
      go_wp2_with (go_at_call 87; refine (refGoes_any H4.out M2.out).mono ?_; rintro e w' ⟨rfl, hq1, hq2⟩; rw [HG2.out]; have HQ1 := Lib.hid hq1; have HQ2 := Lib.hid hq2; clear hq1 hq2)
      go_ret
      rw [E1.out, HG.out]
      exact ⟨rfl, HQ1.out, T4'.out.trans (HQ2.out.mono (by simp))⟩
  · have e1 : D.write i s = (D.may i, D) := by unfold DiskS.write; rw [if_neg hm]
    have E1 := Lib.hid e1
    have HN := Lib.hid hm
    clear e1 hm
    unfold DiskS.may at E1 HN
    generalize D.lasts.length = n at *
    cases hdd : D.dead with
    | true =>
      rw [hdd] at c3 E1
      clear hdd
      go_enter Tryz.func86, Tryz.ntmps86
      go_wp2
      go_ret
      rw [E1.out]
      exact ⟨rfl, H1.out, (Tch.refl _ _).alloc _⟩
    | false =>
      rw [hdd] at c3 E1 HN
      clear hdd
      by_cases h0 : i < 0
      · rw [if_neg (by simp), if_pos h0] at E1
        go_enter Tryz.func86, Tryz.ntmps86
        go_wp2
        go_ret
        rw [E1.out]
        exact ⟨rfl, H1.out, (Tch.refl _ _).alloc _⟩
      · by_cases h2 : (n : Int) ≤ i
        · rw [if_neg (by simp), if_neg h0, if_pos h2] at E1
          go_enter Tryz.func86, Tryz.ntmps86
          go_wp2
          go_ret
          rw [E1.out]
          exact ⟨rfl, H1.out, (Tch.refl _ _).alloc _⟩
        · exfalso
          rw [if_neg (by simp), if_neg h0, if_neg h2] at HN
          exact HN.out rfl
end Go.Proofs.YthbaipljlbddcaaGreat
/-
  Lists of numbers: sorting, Pending (both disks), EqInts.
-/
namespace Go.Proofs.YthbaipljlbddcaaGreat
open Go.RowKit Go.Cib

theorem intsT : IntsT Tryz.prog 29 3 := .of (by kernel_rfl) (by kernel_rfl)

/-- What the library's sort does to a list of the call's own. -/
theorem sort_any (w : World) (B : Nat) (v : Value) (l : List Int) (h : OwnInts w B 3 v l) (hl : l.length < 4611686018427387904) :
    Calls Tryz.prog 65 #[v] w fun e w' => e = .returned (.tuple #[]) ∧ Tch v.ownBlock.toList w w' ∧ ∃ a cap, v = .slice a l.length cap ∧ IntsAt w' a (l.mergeSort fun x y => decide (x ≤ y)) := by
  rcases h.shape with ⟨rfl, rfl⟩ | ⟨g, cap, cur, rfl, hb, hg, hlc, _, hcs, htk⟩
  · refine (Tryz.slices_Sort_int_none none 0 w).mono ?_
    rintro e w' ⟨rfl, rfl⟩
    exact ⟨rfl, Tch.refl _ _, none, 0, rfl, by intro j x hj; simp at hj⟩
  · have hcell : ∀ j, j < l.length → cur[j]? = some (.int .i64 (l.toArray[j]!)) := by
      intro j hj
      have h1 : (cur.toList.take l.length)[j]? = (l.map (Value.int .i64))[j]? := by rw [htk]
      rw [List.getElem?_take, if_pos hj, Array.getElem?_toList, List.getElem?_map, List.getElem?_eq_getElem hj] at h1
      rw [h1]
      simp [hj]
    have hH : Sort.Holds (Value.int .i64) w g 0 l.toArray := by
      intro j hj
      have hj' : j < l.length := by simpa using hj
      refine ⟨?_, frozen_of_row w g _ _ _ hg⟩
      rw [cell_of_row w g _ _ _ _ hg, Nat.zero_add]
      exact hcell j hj'
    refine (Tryz.slices_Sort_int g 0 cap l w hH (lt_of_heap hg) hl).mono ?_
    rintro e w' ⟨rfl, n, os, rfl⟩
    have hsz : (l.mergeSort fun x y => decide (x ≤ y)).toArray.size = l.toArray.size := by simp
    have hother : ∀ k, k < w.heap.size → k ≠ g → (Sort.grow (Sort.putRow (Value.int .i64) (Sort.ahead w n) g 0 (l.mergeSort fun x y => decide (x ≤ y)).toArray) os).heap[k]? = w.heap[k]? := by
      intro k hk hkg
      rw [Sort.heap_grow_old _ _ (by simpa [Sort.ahead] using hk)]
      simp only [Sort.putRow, Sort.mapBlock, Sort.ahead, Array.getElem?_modify]
      rw [if_neg (fun e => hkg e.symm)]
    refine ⟨rfl, ⟨rfl, rfl, rfl, by simp [Sort.ahead], fun k hk hn => hother k hk (by simpa [Value.ownBlock] using hn)⟩, _, _, rfl, fun j x hj => ⟨g, 0, rfl, ?_⟩⟩
    have hjl : j < (l.mergeSort fun x y => decide (x ≤ y)).toArray.size := by
      have := (List.getElem?_eq_some_iff.1 hj).1
      simpa using this
    rw [Sort.cell?_grow _ _ _ (by simpa [Sort.ahead] using lt_of_heap hg)]
    rw [Sort.cell?_putRow (Value.int .i64) (Sort.ahead w n) g 0 l.toArray _ hH hsz j hjl]
    congr 2
    rw [getElem!_pos _ j hjl]
    simp only [List.getElem_toArray]
    exact (List.getElem?_eq_some_iff.1 hj).2

theorem pending_mem (D : DiskS) (ok : D.Ok) (k : Int) : k ∈ D.pending ↔ (D.waits k).isSome = true := by
  unfold DiskS.pending
  rw [List.mem_filter, List.mem_map]
  constructor
  · exact fun h => h.2
  · intro h
    refine ⟨?_, h⟩
    obtain ⟨s, hs⟩ := Option.isSome_iff_exists.1 h
    have := ok.sup k s hs
    exact ⟨k.toNat, List.mem_range.2 (by omega), by omega⟩
theorem pending_sorted (D : DiskS) : D.pending.Pairwise (· < ·) := by
  unfold DiskS.pending
  refine List.Pairwise.filter _ (List.pairwise_map.2 ?_)
  exact List.pairwise_lt_range.imp fun h => by omega
theorem pending_nodup (D : DiskS) : D.pending.Nodup := (pending_sorted D).imp fun h => by omega
theorem pending_len (D : DiskS) : D.pending.length ≤ D.lasts.length := by
  unfold DiskS.pending
  exact Nat.le_trans (List.length_filter_le _ _) (by simp)
/-- Whatever order they came in: sorted they are the document's list. -/
theorem sorted_pending (D : DiskS) (ok : D.Ok) (l : List Int) (hn : l.Nodup) (hm : ∀ k, k ∈ l ↔ (D.waits k).isSome = true) : (l.mergeSort fun x y => decide (x ≤ y)) = D.pending ∧ l.length = D.pending.length := by
  have hp : l.Perm D.pending := (List.perm_ext_iff_of_nodup hn (pending_nodup D)).2 fun k => by rw [hm, pending_mem D ok]
  refine ⟨?_, hp.length_eq⟩
  have h1 : (l.mergeSort fun x y => decide (x ≤ y)).Pairwise (· ≤ ·) := by
    have := List.pairwise_mergeSort (le := fun (x y : Int) => decide (x ≤ y)) (by intro a b c; simp; omega) (by intro a b; simp; omega) l
    exact this.imp fun h => by simpa using h
  exact List.Perm.eq_of_pairwise (le := (· ≤ ·)) (fun a b _ _ h1 h2 => by omega) h1 ((pending_sorted D).imp fun h => by omega) ((List.mergeSort_perm l _).trans hp)

/-- What the loop of Pending has gathered. -/
def PendRel (w0 : World) (M R : Nat) (D : DiskS) (cnt : Nat) (v : Value) (wr : World) : Prop :=
  ∃ (g : Int → Option Sec) (l : List Int), IterAt kInt wr R M (fun i => (D.waits i).map fun s => .agg (secA s)) (fun i => (g i).map fun s => .agg (secA s)) cnt ∧
    OwnInts wr w0.heap.size 3 v l ∧ l.Nodup ∧ (∀ k, k ∈ l ↔ (g k).isSome = true) ∧ (∀ k s, g k = some s → D.waits k = some s) ∧ Tch [] w0 wr

theorem pend_len {D : DiskS} (ok : D.Ok) {g : Int → Option Sec} {l : List Int} (hn : l.Nodup) (hm : ∀ k, k ∈ l ↔ (g k).isSome = true) (hg : ∀ k s, g k = some s → D.waits k = some s) : l.length ≤ 16384 := by
  have hsub : l.Perm (D.pending.filter fun k => (g k).isSome) := by
    refine (List.perm_ext_iff_of_nodup hn ((pending_nodup D).filter _)).2 fun k => ?_
    rw [List.mem_filter, hm, pending_mem D ok]
    constructor
    · intro h
      obtain ⟨s, hs⟩ := Option.isSome_iff_exists.1 h
      exact ⟨by rw [hg k s hs]; rfl, h⟩
    · exact fun h => h.2
  have h1 := hsub.length_eq
  have h2 := List.length_filter_le (fun k => (g k).isSome) D.pending
  have h3 := pending_len D
  have h4 := ok.size
  omega

theorem own_iter {w0 wr w4 : World} {R M : Nat} {f g : Int → Option Value} {cnt : Nat} {v : Value} {l : List Int} (ho : OwnInts wr w0.heap.size 3 v l) (hi : IterAt kInt wr R M f g cnt) (ht : Tch [R] wr w4) (o : Obj) : OwnInts (w4.alloc o) w0.heap.size 3 v l := by
  obtain ⟨es, clk, seen, h1, h2, h3, _⟩ := hi
  have hne := ho.ne h3 (by simp)
  exact (ho.kept ht (fun k hk hm => hne (by simp at hm; subst hm; rw [hk]; simp))).kept ((Tch.refl [] _).alloc _) (by simp)
theorem iter_own {w5 w6 : World} {R M B : Nat} {f g : Int → Option Value} {cnt : Nat} {v : Value} {l : List Int} (hi : IterAt kInt w5 R M f g cnt) (ho : OwnInts w5 B 3 v l) (ht : Tch v.ownBlock.toList w5 w6) : IterAt kInt w6 R M f g cnt := by
  have hi' := hi
  obtain ⟨es, clk, seen, h1, h2, h3, _⟩ := hi'
  exact hi.touch ht (ho.ne h3 (by simp)) (ho.ne h1 (by simp))
theorem PendRel.next {w0 wr w4 w6 : World} {M R : Nat} {D : DiskS} {cnt cnt4 : Nat} {v v6 : Value} {g : Int → Option Sec} {l : List Int} {kk : Int} {s : Sec}
    (hi : IterAt kInt wr R M (fun i => (D.waits i).map fun s => .agg (secA s)) (fun i => (g i).map fun s => .agg (secA s)) cnt) (ho : OwnInts wr w0.heap.size 3 v l) (hn : l.Nodup) (hm : ∀ k, k ∈ l ↔ (g k).isSome = true) (hg : ∀ k s, g k = some s → D.waits k = some s) (ht : Tch [] w0 wr)
    (hR : w0.heap.size ≤ R) (hs : D.waits kk = some s) (hgk : ((g kk).map fun s => Value.agg (secA s)) = none) (t4 : Tch [R] wr w4) (i4 : IterAt kInt w4 R M (fun i => (D.waits i).map fun s => .agg (secA s)) (upd (fun i => (g i).map fun s => .agg (secA s)) kk (.agg (secA s))) cnt4) (o : Obj)
    (o6 : OwnInts w6 w0.heap.size 3 v6 (l ++ [kk])) (t6 : Tch v.ownBlock.toList (w4.alloc o) w6) : PendRel w0 M R D cnt4 v6 w6 := by
  have hgn : g kk = none := by cases h : g kk with | none => rfl | some x => simp [h] at hgk
  have own5 := own_iter ho hi t4 o
  have i5 := i4.touch ((Tch.refl [] w4).alloc o) (by simp) (by simp)
  rw [upd_sec] at i5
  refine ⟨fun j => if j = kk then some s else g j, l ++ [kk], iter_own i5 own5 t6, o6, ?_, ?_, ?_, ?_⟩
  · refine List.nodup_append.2 ⟨hn, by simp, ?_⟩
    intro a ha b hb
    simp at hb
    subst hb
    rintro rfl
    have := (hm a).1 ha
    rw [hgn] at this
    cases this
  · intro k
    by_cases e : k = kk
    · simp [e]
    · simp [e, hm]
  · intro k u hk
    by_cases e : k = kk
    · subst e; simp at hk; subst hk; exact hs
    · simp only [e, if_false] at hk; exact hg k u hk
  · have h1 : Tch [R] w0 w4 := (ht.mono (by simp)).trans t4
    have h2 : Tch (R :: v.ownBlock.toList) w0 w6 := ((h1.mono (by simp)).alloc o).trans (t6.mono (fun k hk => List.mem_cons_of_mem _ hk))
    refine h2.drop (fun k hk => ?_)
    rcases List.mem_cons.1 hk with rfl | hk
    · exact .inr hR
    · exact .inr (own5.lt k hk).1

/-- v is a list of numbers in memory. -/
def IntsV (w : World) (v : Value) (l : List Int) : Prop := ∃ a cap, v = .slice a l.length cap ∧ IntsAt w a l

end Go.Proofs.YthbaipljlbddcaaGreat
/-
  Lists of numbers: the document's Pending, EqInts.
-/
namespace Go.Proofs.YthbaipljlbddcaaGreat
open Go.RowKit Go.Cib

/-- The pending numbers below j. -/
def pendTo (D : DiskS) (j : Nat) : List Int := ((List.range j).map (fun (i : Nat) => (i : Int))).filter fun i => (D.waits i).isSome
theorem pendTo_succ (D : DiskS) (j : Nat) : pendTo D (j + 1) = if (D.waits (j : Int)).isSome = true then pendTo D j ++ [(j : Int)] else pendTo D j := by
  unfold pendTo
  rw [List.range_succ, List.map_append, List.filter_append]
  by_cases h : (D.waits (j : Int)).isSome = true
  · rw [if_pos h]; simp [h]
  · rw [if_neg h]; simp [h]
theorem pendTo_len (D : DiskS) (j : Nat) : (pendTo D j).length ≤ j := by
  unfold pendTo
  exact Nat.le_trans (List.length_filter_le _ _) (by simp)

end Go.Proofs.YthbaipljlbddcaaGreat
/-
  Lists of sectors: a row's head, EqSectors, Clone, Sectors.
-/
namespace Go.Cib
open Go Go.RowKit
/-- b's first cells are the arrays ls. -/
def SecsIn {n : Nat} (w : World) (b : Nat) (ls : List (Arr n)) : Prop := ∃ cur e, w.heap[b]? = some (.cells cur e) ∧ ls.length * n ≤ cur.size ∧ cur.extract 0 (ls.length * n) = secsA ls
theorem secsIn_whole {n : Nat} {w : World} {b : Nat} {ls : List (Arr n)} {e : TypeId} (h : w.heap[b]? = some (.cells (secsA ls) e)) : SecsIn w b ls :=
  ⟨_, _, h, by simp, by have := Array.extract_size (xs := secsA ls); rw [size_secsA] at this; exact this⟩
theorem SecsIn.touch {n : Nat} {w w' : World} {b : Nat} {ls : List (Arr n)} {S : List Nat} (h : SecsIn w b ls) (ht : Tch S w w') (hb : b ∉ S) : SecsIn w' b ls := by
  obtain ⟨cur, e, h1, h2⟩ := h
  exact ⟨cur, e, ht.heap h1 hb, h2⟩
section
variable {n : Nat} {P : Program} {T : TypeId} {ops : Array Oper} {rest : List Oper} {a : Act} {w : World} {Q : Exit → Act → World → Prop} {dst : Option Tmp} {ty : TypeId} {pos : String} {af : Array Edge} {x y : Operand}
theorem exec_load_in (hT : BytesT P T n) {b i : Nat} {ls : List (Arr n)} {s : Arr n} {o : Oper} (ho : o.op = .load T x) (hb : SecsIn w b ls) (hi : ls[i]? = some s) (hx : a.eval x = .pointer (some ⟨b, i * n, none⟩)) :
    (execOp a.eval o).run P w = .ok (.value (.agg (secA s))) w := by
  obtain ⟨cur, e, h1, h2, h3⟩ := hb
  have hil := (List.getElem?_eq_some_iff.1 hi).1
  have hl := mul_in (k := n) hil
  rw [exec_load_agg hT.agg ho hx h1 (by omega)]
  congr 3
  have h4 := secsA_extract hi
  rw [← h3, Array.extract_extract] at h4
  rw [← h4]
  congr 1 <;> omega
theorem ws_load_in {Qs : Act → Prop} (hT : BytesT P T n) {b i : Nat} {ls : List (Arr n)} {s : Arr n} (hb : SecsIn w b ls) (hi : ls[i]? = some s) (hx : a.eval x = .pointer (some ⟨b, i * n, none⟩))
    (h : wpStill P ops w Qs rest (a.put dst (.agg (secA s)))) : wpStill P ops w Qs (⟨dst, .load T x, ty, pos, af, none⟩ :: rest) a :=
  ws_value rfl (exec_load_in hT rfl hb hi hx) h
theorem wc_load_in (hT : BytesT P T n) {b i : Nat} {ls : List (Arr n)} {s : Arr n} (hb : SecsIn w b ls) (hi : ls[i]? = some s) (hx : a.eval x = .pointer (some ⟨b, i * n, none⟩))
    (h : wpList P ops Q rest (a.put dst (.agg (secA s))) w) : wpList P ops Q (⟨dst, .load T x, ty, pos, af, none⟩ :: rest) a w :=
  wc_value rfl (exec_load_in hT rfl hb hi hx) h
theorem ws_neq_arr {Qs : Act → Prop} (hT : BytesT P T n) {yt : TypeId} {s t : Arr n} (hx : a.eval x = .agg (secA s)) (hy : a.eval y = .agg (secA t))
    (h : wpStill P ops w Qs rest (a.put dst (.bool (!decide (s = t))))) : wpStill P ops w Qs (⟨dst, .binOp .neq T x y yt, ty, pos, af, none⟩ :: rest) a := by
  rw [← decide_arr] at h
  exact ws_value rfl (exec_neq_bytes hT rfl hx hy s.h t.h) h
/-- 'append([]T{}, xs...)', xs a row that is not empty. -/
theorem wc_clone_arrs (hT : BytesT P T n) {S : TypeId} (hS : P.underlying S = some (.slice T)) (hn : 0 < n) {g b : Nat} {ls : List (Arr n)} {cap : Nat} {e : TypeId} (hg : w.heap[g]? = some (.cells #[] T)) (hb : w.heap[b]? = some (.cells (secsA ls) e)) (hls : ls ≠ [])
    (hlim : ls.length * n ≤ 140737488355328) {ar : Array Operand} {ts : Array TypeId} (har : ar = #[x, y]) (hts : ts = #[S, S]) (hx : a.eval x = .slice (some ⟨g, 0, none⟩) 0 0) (hy : a.eval y = .slice (some ⟨b, 0, none⟩) ls.length cap)
    (h' : ∀ k cap' w', Tch [g] w w' → g ≤ k → SecsIn w' k ls → wpList P ops Q rest (a.put dst (.slice (some ⟨k, 0, none⟩) ls.length cap')) w') :
    wpList P ops Q (⟨dst, .call { callee := .builtin .append, args := ar, argTypes := ts }, ty, pos, af, none⟩ :: rest) a w := by
  subst har hts
  obtain ⟨i, h1, h2, h3, h4⟩ := hT.info
  have hglt := lt_of_heap hg
  refine wpList_append_own w rfl x y S rfl g T i (.agg (bytesA (List.replicate n 0))) n n hS h1 h4 h2 h3 (by simp [Value.cells]) hn (.slice (some ⟨g, 0, none⟩) 0 0) 0 [] hx ⟨by simp, .inr ⟨g, 0, #[], rfl, Nat.le_refl _, hg, Nat.le_refl _, by simp, by simp, by simp⟩⟩ ⟨b, 0, none⟩ ls.length cap (secsA ls).toList hy (by simp) ?_ ?_ ?_ ?_ (by omega) ?_
  · intro j u hj
    rw [add_mk, Nat.zero_add, cell_of_row w b j _ _ _ hb]
    simpa using hj
  · exact secsA_one ls
  · unfold maxLen
    have : ls.length ≤ ls.length * n := Nat.le_mul_of_pos_right _ hn
    omega
  · rw [Nat.zero_add]; exact hlim
  · intro v' w' hown hgr _
    rw [Nat.zero_add, List.nil_append] at hown
    obtain ⟨hl, hv | ⟨k, cap', cur, rfl, hgk, hk, hc1, hc2, hc3, hc4⟩⟩ := hown
    · exfalso
      obtain ⟨_, h0⟩ := hv
      exact hls (List.eq_nil_of_length_eq_zero h0)
    · have hlpos : 0 < ls.length := List.length_pos_iff.2 hls
      have hlen : ls.length * n ≤ cur.size := by rw [hc3]; exact Nat.mul_le_mul_right _ hc1
      refine h' k cap' w' (Tch.of_grown hgr (fun q hq => by simp [Value.ownBlock] at hq; simp [hq])) hgk ⟨cur, T, hk, hlen, ?_⟩
      apply Array.toList_inj.1
      rw [Array.toList_extract, List.extract_eq_take_drop, List.drop_zero, Nat.sub_zero, hc4]
end
end Go.Cib
/-
  EqSectors, Clone, Sectors.
-/
namespace Go.Proofs.YthbaipljlbddcaaGreat
open Go.RowKit Go.Cib

set_option maxRecDepth 20000 in
set_option maxHeartbeats 1000000 in
theorem eqSecs_any {w : World} {a b : Nat} {ca cb : Nat} {l m : List Sec} (ha : SecsIn w a l) (hb : SecsIn w b m) (hl : l.length ≤ 9223372036854775807) (hm : m.length ≤ 9223372036854775807) :
    Calls Tryz.prog 9 #[.slice (some ⟨a, 0, none⟩) l.length ca, .slice (some ⟨b, 0, none⟩) m.length cb] w fun e w' => e = .returned (.bool (decide (l = m))) ∧ Tch [] w w' := by
  have A1 := Lib.hid ha
  have B1 := Lib.hid hb
  clear ha hb
  by_cases hlm : l.length = m.length
  · have HL := Lib.hid hlm
    have hne : ((l.length : Int) != (m.length : Int)) = false := by simp; omega
    generalize hn1 : l.length = n at *
    generalize hn2 : m.length = n2 at *
    have N1 := Lib.hid hn1
    have N2 := Lib.hid hn2
    clear hn1 hn2 hlm
    go_enter Tryz.func9, Tryz.ntmps9
    go_wp2_with fail
    go_loopg [5] n (fun k i wr => ∃ j, OnAt n i k j ∧ l.take j = m.take j ∧ Tch [] w wr)
    case atStart => exact ⟨0, ⟨Nat.zero_le _, rfl, rfl⟩, rfl, Tch.refl _ _⟩
    case round =>
      obtain ⟨j, ⟨hj, rfl, rfl⟩, he, ht⟩ := hrel
      have E1 := Lib.hid he
      have T1 := Lib.hid ht
      clear he
      by_cases hjn : j < n
      · have e1 : l.length = n := N1.out
        have e2 : m.length = n2 := N2.out
        have e3 : n = n2 := HL.out
        have hx : l[j]? = some (l[j]'(by omega)) := List.getElem?_eq_getElem _
        have hy : m[j]? = some (m[j]'(by omega)) := List.getElem?_eq_getElem _
        generalize l[j]'(by omega) = x at *
        generalize m[j]'(by omega) = y at *
        have HX := Lib.hid hx
        have HY := Lib.hid hy
        have A2 := Lib.hid ((A1.out.touch ht (by simp)).touch (Tch.refl [] wr).drew (by simp))
        have B2 := Lib.hid ((B1.out.touch ht (by simp)).touch (Tch.refl [] wr).drew (by simp))
        have hjn2 : j < n2 := by omega
        clear ht hx hy e1 e2 e3
        go_wp2_with fail
        refine wp_region_still_lit (by kernel_rfl) (by kernel_rfl) ?_
        still_step; still_step; still_step
        apply ws_load_in secT A2.out HX.out
        · exact rfl
        still_step; still_step; still_step
        apply ws_load_in secT B2.out HY.out
        · exact rfl
        apply ws_neq_arr secT
        · exact rfl
        · exact rfl
        refine wpStill_nil ?_
        go_frame
        by_cases hxy : x = y
        · subst hxy
          rw [decide_eq_true rfl]
          go_wp2_with fail
          go_roundg (n - (j + 1))
          case measure => omega
          case rel =>
            have h1 : l.take j = m.take j := E1.out
            have h2 : l[j]? = some x := HX.out
            have h3 : m[j]? = some x := HY.out
            refine ⟨j + 1, ⟨by omega, by go_num, rfl⟩, ?_, T1.out.trans (Tch.refl _ _).drew⟩
            rw [List.take_add_one, List.take_add_one, h1, h2, h3]
        · rw [decide_eq_false hxy]
          have hd : decide (l = m) = false := by
            rw [decide_eq_false_iff_not]; rintro rfl
            have h2 : l[j]? = some x := HX.out
            have h3 : l[j]? = some y := HY.out
            rw [h2] at h3; exact hxy (by simpa using h3)
          have D1 := Lib.hid hd
          clear hd hxy
          go_wp2_with fail
          go_ret
          rw [D1.out]
          exact ⟨rfl, T1.out.trans (Tch.refl _ _).drew⟩
      · have hd : decide (l = m) = true := by
          have e1 : l.length = n := N1.out
          have e2 : m.length = n2 := N2.out
          have e3 : n = n2 := HL.out
          have h1 : l.take j = m.take j := E1.out
          rw [List.take_of_length_le (by omega), List.take_of_length_le (by omega)] at h1
          simp [h1]
        have D1 := Lib.hid hd
        clear hd ht
        go_wp2_with fail
        go_ret
        rw [D1.out]
        exact ⟨rfl, T1.out⟩
  · have hne : ((l.length : Int) != (m.length : Int)) = true := by simp; omega
    have hd : decide (l = m) = false := by
      rw [decide_eq_false_iff_not]; rintro rfl; exact hlm rfl
    have D1 := Lib.hid hd
    generalize l.length = n at *
    generalize m.length = n2 at *
    clear hd hlm
    go_enter Tryz.func9, Tryz.ntmps9
    go_wp2_with fail
    go_ret
    rw [D1.out]
    exact ⟨rfl, Tch.refl _ _⟩

set_option maxRecDepth 20000 in
set_option maxHeartbeats 400000 in
theorem clone_any {w : World} {L : Nat} {ls : List Sec} {cap : Nat} {e : TypeId} (hL : w.heap[L]? = some (.cells (secsA ls) e)) (hls : ls ≠ []) (hlim : ls.length ≤ 16384) :
    Calls Tryz.prog 26 #[.slice (some ⟨L, 0, none⟩) ls.length cap] w fun e w' => Tch [] w w' ∧ ∃ k cap', e = .returned (.slice (some ⟨k, 0, none⟩) ls.length cap') ∧ w.heap.size ≤ k ∧ SecsIn w' k ls := by
  have HL := Lib.hid hL
  have dlt := lt_of_heap hL
  have g1 : (w.alloc (.cells #[] 26)).heap[w.heap.size]? = some (.cells #[] 26) := by rw [heap_alloc, if_pos rfl]
  have g1 := Lib.hid g1
  have g2 := Lib.hid (((Tch.refl [] w).alloc (.cells #[] 26)).heap hL (by simp))
  clear hL
  go_enter Tryz.func26, Tryz.ntmps26
  go_wp2_with (first | (rw [Go.Lib.run_eql_slice_nil _ _ _ _ _ _ _ _ uSecs]; go_simp) | ((with_reducible apply wc_clone_arrs secT uSecs (by decide) g1.out g2.out hls (by omega)); exact rfl; exact rfl; exact rfl; exact rfl; intro k cap' w' ht hk hr; go_frame; have HT := Lib.hid ht; have HK := Lib.hid hk; have HR := Lib.hid hr; clear ht hk hr))
  go_ret
  exact ⟨tch_own ((Tch.refl [] w).alloc _) HT.out (by simp), _, _, rfl, HK.out, HR.out⟩

set_option maxRecDepth 20000 in
set_option maxHeartbeats 400000 in
theorem sectors_any {w : World} {d L M : Nat} {D : DiskS} (h : DiskAt w d L M D) :
    Calls Tryz.prog 10 #[.pointer (some ⟨d, 0, none⟩)] w fun e w' => Tch [] w w' ∧ ∃ k cap', e = .returned (.slice (some ⟨k, 0, none⟩) D.lasts.length cap') ∧ w.heap.size ≤ k ∧ SecsIn w' k D.lasts := by
  have c0 := cell_of_row w d 0 _ _ _ h.hd
  simp only [List.getElem?_toArray, List.getElem?_cons_zero] at c0
  have hs := h.ok.size
  have hn : D.lasts ≠ [] := by have := h.ok.some; intro e; rw [e] at this; simp at this
  have HL := Lib.hid h.hL
  clear h
  go_enter Tryz.func10, Tryz.ntmps10
  go_wp2_with fail
  refine (clone_any HL.out hn hs).mono ?_
  rintro e w' ⟨ht, k, cap', rfl, hk, hr⟩
  have HT := Lib.hid ht
  have HK := Lib.hid hk
  have HR := Lib.hid hr
  clear ht hk hr
  go_wp2_with fail
  go_ret
  exact ⟨HT.out, _, _, rfl, HK.out, HR.out⟩
end Go.Proofs.YthbaipljlbddcaaGreat
/-
  The document's own disk in memory: Read, Flush.
-/
namespace Go.Cib.DiskS
open Go Go.RowKit
/-- Those of the list that are pending are flushed. -/
def settle (D : DiskS) (l : List Int) : DiskS := { D with lasts := lay D.lasts (D.kept l), waits := fun i => if i ∈ l then none else D.waits i }
/-- One more is laid. -/
def lay1 (D : DiskS) (n : Nat) (s : Sec) : DiskS := { D with lasts := D.lasts.set n s }
/-- One is no more pending. -/
def drop1 (D : DiskS) (n : Nat) : DiskS := { D with waits := fun j => if j = (n : Int) then none else D.waits j }
theorem settle_nil (D : DiskS) : D.settle [] = D := by
  unfold settle
  have : D.kept [] = fun _ => none := by funext i; simp [kept]
  rw [this, lay_none]
  simp
theorem settle_none (D : DiskS) (l : List Int) (i : Int) (h : (D.settle l).waits i = none) : D.settle (l ++ [i]) = D.settle l := by
  unfold settle at h ⊢
  simp only at h
  have e1 : D.kept (l ++ [i]) = D.kept l := by
    funext j
    unfold kept
    by_cases e : j = i
    · subst e
      by_cases hm : j ∈ l
      · simp [hm]
      · rw [if_neg hm] at h; simp [hm, h]
    · simp [e]
  have e2 : (fun j => if j ∈ l ++ [i] then none else D.waits j) = fun j => if j ∈ l then none else D.waits j := by
    funext j
    by_cases e : j = i
    · subst e
      by_cases hm : j ∈ l
      · simp [hm]
      · rw [if_neg hm] at h; simp [hm, h]
    · simp [e]
  rw [e1, e2]
theorem settle_some (D : DiskS) (l : List Int) (i : Nat) (s : Sec) (h : (D.settle l).waits i = some s) : D.settle (l ++ [(i : Int)]) = ((D.settle l).lay1 i s).drop1 i := by
  unfold settle lay1 drop1 at *
  simp only at h ⊢
  have hm : (i : Int) ∉ l := by intro hm; rw [if_pos hm] at h; cases h
  rw [if_neg hm] at h
  congr 1
  · have e1 : D.kept (l ++ [(i : Int)]) = fun j => if j = (i : Int) then .some s else D.kept l j := by
      funext j
      unfold kept
      by_cases e : j = (i : Int)
      · subst e; simp [h]
      · simp [e]
    rw [e1, lay_upd]
  · funext j
    by_cases e : j = (i : Int)
    · subst e; simp
    · simp [e]
@[simp] theorem settle_len (D : DiskS) (l : List Int) : (D.settle l).lasts.length = D.lasts.length := by simp [settle]
theorem settle_all (D : DiskS) (ok : D.Ok) : D.settle ((List.range D.lasts.length).map fun (i : Nat) => (i : Int)) = D.flushed := by
  unfold settle flushed
  have hm : ∀ i s, D.waits i = some s → i ∈ (List.range D.lasts.length).map fun (i : Nat) => (i : Int) := by
    intro i s h
    obtain ⟨h1, h2⟩ := ok.sup i s h
    obtain ⟨n, rfl⟩ := Int.eq_ofNat_of_zero_le h1
    exact List.mem_map.2 ⟨n, List.mem_range.2 (by omega), rfl⟩
  have e1 : D.kept ((List.range D.lasts.length).map fun (i : Nat) => (i : Int)) = D.waits := by
    funext i
    unfold kept
    by_cases h : i ∈ (List.range D.lasts.length).map fun (i : Nat) => (i : Int)
    · rw [if_pos h]
    · rw [if_neg h]
      cases hw : D.waits i with
      | none => rfl
      | some s => exact absurd (hm i s hw) h
  have e2 : (fun i => if i ∈ (List.range D.lasts.length).map (fun (i : Nat) => (i : Int)) then none else D.waits i) = fun _ => none := by
    funext i
    by_cases h : i ∈ (List.range D.lasts.length).map fun (i : Nat) => (i : Int)
    · rw [if_pos h]
    · rw [if_neg h]
      cases hw : D.waits i with
      | none => rfl
      | some s => exact absurd (hm i s hw) h
  rw [e1, e2]
theorem Ok.settle {D : DiskS} (ok : D.Ok) (l : List Int) : (D.settle l).Ok :=
  ⟨by simpa using ok.some, by simpa using ok.size, fun i s h => by
    simp only [DiskS.settle] at h
    split at h
    · cases h
    · simpa using ok.sup i s h, ok.arm0, ok.arm1⟩
theorem Ok.lay1 {D : DiskS} (ok : D.Ok) (n : Nat) (s : Sec) : (D.lay1 n s).Ok := ⟨by simpa [DiskS.lay1] using ok.some, by simpa [DiskS.lay1] using ok.size, by simpa [DiskS.lay1] using ok.sup, ok.arm0, ok.arm1⟩
theorem Ok.drop1 {D : DiskS} (ok : D.Ok) (n : Nat) : (D.drop1 n).Ok :=
  ⟨ok.some, ok.size, fun i s h => by
    simp only [DiskS.drop1] at h
    split at h
    · cases h
    · exact ok.sup i s h, ok.arm0, ok.arm1⟩
/-- The list of the first numbers. -/
def upto (n : Nat) : List Int := (List.range n).map fun (i : Nat) => (i : Int)
theorem upto_succ (n : Nat) : upto (n + 1) = upto n ++ [(n : Int)] := by simp [upto, List.range_succ]
end Go.Cib.DiskS
namespace Go.Proofs.YthbaipljlbddcaaGreat
open Go.RowKit Go.Cib

theorem RefAt.lay1 {w : World} {r L W H : Nat} {D : DiskS} (h : RefAt w r L W H D) (n : Nat) (s : Sec) : RefAt (w.drew.setRow L (secsA (D.lasts.set n s))) r L W H (D.lay1 n s) := by
  have ht : Tch [L] w (w.drew.setRow L (secsA (D.lasts.set n s))) := (Tch.refl _ _).drew.setRow (.inl (by simp)) _
  obtain ⟨ws, g1, g2, g3⟩ := h.hW
  have hl : (D.lay1 n s).lasts.length = D.lasts.length := by simp [DiskS.lay1]
  have hh : hasA (D.lay1 n s) = hasA D := by unfold hasA; rw [hl]; rfl
  refine ⟨?_, setRow_heap _ _ _ _ _ _ h.hL, ⟨ws, ht.heap g1 (by simpa using h.d4.symm), by rw [hl]; exact g2, g3⟩, by rw [hh]; exact ht.heap h.hH (by simpa using h.d5.symm), h.d1, h.d2, h.d3, h.d4, h.d5, h.d6, h.ok.lay1 n s⟩
  rw [hl]
  exact ht.heap h.hr (by simpa using h.d1)
theorem RefAt.drop1 {w : World} {r L W H : Nat} {D : DiskS} (h : RefAt w r L W H D) (n : Nat) : RefAt (w.setCell ⟨H, n, none⟩ (.bool false)) r L W H (D.drop1 n) := by
  have ht : Tch [H] w (w.setCell ⟨H, n, none⟩ (.bool false)) := (Tch.refl _ _).setCell (by simp) _
  obtain ⟨ws, g1, g2, g3⟩ := h.hW
  refine ⟨ht.heap h.hr (by simpa using h.d3), ht.heap h.hL (by simpa using h.d5), ⟨ws, ht.heap g1 (by simpa using h.d6), g2, fun i s hi => ?_⟩, ?_, h.d1, h.d2, h.d3, h.d4, h.d5, h.d6, h.ok.drop1 n⟩
  · simp only [DiskS.drop1] at hi
    split at hi
    · cases hi
    · exact g3 i s hi
  · rw [heap_setCell_cells h.hH]
    rw [hasA_set D (D.drop1 n) n false rfl (by simp [DiskS.drop1]) (fun j hj => by
      have : ¬ ((j : Int) = (n : Int)) := by omega
      simp [DiskS.drop1, this])]

set_option maxRecDepth 20000 in
set_option maxHeartbeats 1000000 in
theorem refRead_any {w : World} {r L W H : Nat} {D : DiskS} (h : RefAt w r L W H D) (i : Int) :
    Calls Tryz.prog 56 #[.pointer (some ⟨r, 0, none⟩), .int .i64 i] w fun e w' =>
      e = .returned (.tuple #[.agg (secA (D.read i).1), .int .i64 (D.read i).2]) ∧ Tch [] w w' := by
  obtain ⟨W1, hW1⟩ : ∃ W1, W1 = w.alloc (.cells (secA (Arr.zero : Sec)) 26) := ⟨_, rfl⟩
  have h1 : RefAt W1 r L W H D := by rw [hW1]; exact h.touch ((Tch.refl [] w).alloc _) (by simp) (by simp) (by simp) (by simp)
  have hb1 : W1.heap[w.heap.size]? = some (.cells (secA (Arr.zero : Sec)) 26) := by rw [hW1]; exact heap_alloc_new w _
  have t1 : Tch [] w W1 := by rw [hW1]; exact (Tch.refl _ _).alloc _
  have fin : ∀ W, Tch [w.heap.size] W1 W → Tch [] w W := fun W ht => tch_own t1 ht (by simp)
  have c0 := cell_of_row W1 r 0 _ _ _ h1.hr
  have c1 := cell_of_row W1 r 1 _ _ _ h1.hr
  have c2 := cell_of_row W1 r 2 _ _ _ h1.hr
  have c3 := cell_of_row W1 r 3 _ _ _ h1.hr
  simp only [List.getElem?_toArray, List.getElem?_cons_zero, List.getElem?_cons_succ] at c0 c1 c2 c3
  have HB1 := Lib.hid hb1
  have FIN := Lib.hid fin
  have HW1 := Lib.hid hW1
  have H1 := Lib.hid h1
  clear h h1 hb1 t1 hW1 fin
  by_cases hm : D.may i = 0
  · obtain ⟨m1, m2, m3⟩ := may_in hm
    obtain ⟨n, rfl⟩ := Int.eq_ofNat_of_zero_le m2
    have hn : n < D.lasts.length := by omega
    have e1 : D.read n = (D.at_ n, 0) := by unfold DiskS.read; rw [if_pos hm]
    have E1 := Lib.hid e1
    have m4 : ¬ (D.lasts.length : Int) ≤ n := by omega
    rw [m1] at c3
    have cH := cell_of_row W1 H n _ _ _ H1.out.hH
    rw [hasA_get _ n hn] at cH
    have hx : D.lasts[n]? = some (D.lasts.getD n Arr.zero) := by simp [hn]
    have HX := Lib.hid hx
    obtain ⟨ws, g1, g2, g3⟩ := H1.out.hW
    have G1 := Lib.hid g1
    have G3 := Lib.hid g3
    have HL := Lib.hid H1.out.hL
    have gn : n < ws.length := by omega
    clear hm e1 hx g1 g2 g3 m1 m2 m3
    cases hw : D.waits n with
    | some t =>
      have hs : (D.waits n).isSome = true := by rw [hw]; rfl
      have e2 : D.at_ n = t := by unfold DiskS.at_; rw [hw]; rfl
      have E2 := Lib.hid e2
      have G4 := Lib.hid (G3.out n t hw)
      rw [hs] at cH
      clear hw e2 hs
      go_enter Tryz.func56, Tryz.ntmps56
      go_wp2_with (first | ((with_reducible refine wc_alloc_arr secT ?_); rw [← HW1.out]; go_frame) | ((with_reducible apply wc_load_row secT G1.out G4.out); exact rfl; go_frame) | ((with_reducible apply wc_store_var secT HB1.out); exact rfl; exact rfl; go_frame))
      refine bodyPost_ret (res_cell_tmp secT.agg rfl _ rfl (setRow_heap _ _ _ _ _ _ HB1.out) (size_secA _)) rfl ?_
      rw [E1.out, E2.out]
      exact ⟨rfl, FIN.out _ ((Tch.refl _ _).setRow (.inl (by simp)) _)⟩
    | none =>
      have hs : (D.waits n).isSome = false := by rw [hw]; rfl
      have e2 : D.at_ n = D.lasts.getD n Arr.zero := by unfold DiskS.at_; rw [hw]; rfl
      obtain ⟨u, hu⟩ : ∃ u, D.lasts.getD n Arr.zero = u := ⟨_, rfl⟩
      rw [hu] at e2 HX
      have E2 := Lib.hid e2
      rw [hs] at cH
      clear hw e2 hs hu
      go_enter Tryz.func56, Tryz.ntmps56
      go_wp2_with (first | ((with_reducible refine wc_alloc_arr secT ?_); rw [← HW1.out]; go_frame) | ((with_reducible apply wc_load_row secT HL.out HX.out); exact rfl; go_frame) | ((with_reducible apply wc_store_var secT HB1.out); exact rfl; exact rfl; go_frame))
      refine bodyPost_ret (res_cell_tmp secT.agg rfl _ rfl (setRow_heap _ _ _ _ _ _ HB1.out) (size_secA _)) rfl ?_
      rw [E1.out, E2.out]
      exact ⟨rfl, FIN.out _ ((Tch.refl _ _).setRow (.inl (by simp)) _)⟩
  · have e1 : D.read i = (Arr.zero, D.may i) := by unfold DiskS.read; rw [if_neg hm]
    have E1 := Lib.hid e1
    have HN := Lib.hid hm
    clear e1 hm c1 c2 H1
    unfold DiskS.may at E1 HN
    generalize D.lasts.length = n at *
    cases hdd : D.dead with
    | true =>
      rw [hdd] at c3 E1
      clear hdd
      go_enter Tryz.func56, Tryz.ntmps56
      go_wp2_with (first | ((with_reducible refine wc_alloc_arr secT ?_); rw [← HW1.out]; go_frame) | ((with_reducible apply wc_build_arr secT); exact rfl; go_frame) | ((with_reducible apply wc_store_var secT HB1.out); exact rfl; exact rfl; go_frame))
      refine bodyPost_ret (res_cell_tmp secT.agg rfl _ rfl (setRow_heap _ _ _ _ _ _ HB1.out) (size_secA _)) rfl ?_
      rw [E1.out]
      exact ⟨rfl, FIN.out _ ((Tch.refl _ _).setRow (.inl (by simp)) _)⟩
    | false =>
      rw [hdd] at c3 E1 HN
      clear hdd
      by_cases h0 : i < 0
      · rw [if_neg (by simp), if_pos h0] at E1
        go_enter Tryz.func56, Tryz.ntmps56
        go_wp2_with (first | ((with_reducible refine wc_alloc_arr secT ?_); rw [← HW1.out]; go_frame) | ((with_reducible apply wc_build_arr secT); exact rfl; go_frame) | ((with_reducible apply wc_store_var secT HB1.out); exact rfl; exact rfl; go_frame))
        refine bodyPost_ret (res_cell_tmp secT.agg rfl _ rfl (setRow_heap _ _ _ _ _ _ HB1.out) (size_secA _)) rfl ?_
        rw [E1.out]
        exact ⟨rfl, FIN.out _ ((Tch.refl _ _).setRow (.inl (by simp)) _)⟩
      · by_cases h2 : (n : Int) ≤ i
        · rw [if_neg (by simp), if_neg h0, if_pos h2] at E1
          go_enter Tryz.func56, Tryz.ntmps56
          go_wp2_with (first | ((with_reducible refine wc_alloc_arr secT ?_); rw [← HW1.out]; go_frame) | ((with_reducible apply wc_build_arr secT); exact rfl; go_frame) | ((with_reducible apply wc_store_var secT HB1.out); exact rfl; exact rfl; go_frame))
          refine bodyPost_ret (res_cell_tmp secT.agg rfl _ rfl (setRow_heap _ _ _ _ _ _ HB1.out) (size_secA _)) rfl ?_
          rw [E1.out]
          exact ⟨rfl, FIN.out _ ((Tch.refl _ _).setRow (.inl (by simp)) _)⟩
        · exfalso
          rw [if_neg (by simp), if_neg h0, if_neg h2] at HN
          exact HN.out rfl
end Go.Proofs.YthbaipljlbddcaaGreat
/-
  The document's own disk in memory: Flush, On.
-/
namespace Go.Proofs.YthbaipljlbddcaaGreat
open Go.RowKit Go.Cib

set_option maxRecDepth 20000 in
set_option maxHeartbeats 1000000 in
theorem refFlush_any {w : World} {r L W H : Nat} {D : DiskS} (h : RefAt w r L W H D) :
    Calls Tryz.prog 62 #[.pointer (some ⟨r, 0, none⟩)] w fun e w' =>
      e = .returned (.int .i64 D.flush.1) ∧ RefAt w' r L W H D.flush.2 ∧ Tch [r, L, W, H] w w' := by
  have c3 := cell_of_row w r 3 _ _ _ h.hr
  have c6 := cell_of_row w r 6 _ _ _ h.hr
  have f6 := frozen_of_row w r 6 _ _ h.hr
  simp only [List.getElem?_toArray, List.getElem?_cons_zero, List.getElem?_cons_succ] at c3 c6
  have H1 := Lib.hid h
  clear h
  cases hdd : D.dead with
  | true =>
    have e1 : D.flush = (6, D) := by unfold DiskS.flush; rw [if_pos hdd]
    have E1 := Lib.hid e1
    rw [hdd] at c3
    clear hdd e1
    go_enter Tryz.func62, Tryz.ntmps62
    go_wp2
    go_ret
    rw [E1.out]
    exact ⟨rfl, H1.out, Tch.refl _ _⟩
  | false =>
    rw [hdd] at c3
    have M1 : Hid (D.counted.dead = false) := hdd
    have D1 := Lib.hid hdd
    have h2 : RefAt (w.setCell ⟨r, 6, none⟩ (.int .i64 (wrap64 (D.flushes + 1)))) r L W H D.counted :=
      H1.out.head ((Tch.refl _ _).setCell (by simp) _) rfl rfl H1.out.ok.counted (by rw [heap_setCell_cells H1.out.hr _ _]; rfl)
    have t2 : Tch [r, L, W, H] w (w.setCell ⟨r, 6, none⟩ (.int .i64 (wrap64 (D.flushes + 1)))) := (Tch.refl _ _).setCell (by simp) _
    have H2 := Lib.hid h2
    have T2 := Lib.hid t2
    clear h2 t2 hdd
    have hw' : D.counted.went = D.went := rfl
    cases hgo : D.went with
    | true =>
      have e1 : D.flush = (6, D.counted.goes) := by unfold DiskS.flush; rw [if_neg (by simp [D1.out]), if_pos hgo]
      have E1 := Lib.hid e1
      rw [hgo] at hw'
      have HG2 := Lib.hid hw'
      clear hgo hw' e1
      go_enter Tryz.func62, Tryz.ntmps62
      go_wp2_with (go_at_call 87; refine (refGoes_any H2.out M1.out).mono ?_; rintro e w' ⟨rfl, hq1, hq2⟩; rw [HG2.out]; have HQ1 := Lib.hid hq1; have HQ2 := Lib.hid hq2; clear hq1 hq2)
      go_ret
      rw [E1.out]
      exact ⟨rfl, HQ1.out, T2.out.trans (HQ2.out.mono (by simp))⟩
    | false =>
      have e1 : D.flush = (0, D.counted.goes.flushed) := by unfold DiskS.flush; rw [if_neg (by simp [D1.out]), if_neg (by simp [hgo])]
      have E1 := Lib.hid e1
      rw [hgo] at hw'
      have HG2 := Lib.hid hw'
      clear hgo hw' e1
      go_enter Tryz.func62, Tryz.ntmps62
      go_wp2_with (go_at_call 87; refine (refGoes_any H2.out M1.out).mono ?_; rintro e w' ⟨rfl, hq1, hq2⟩; rw [HG2.out]; have HQ1 := Lib.hid hq1; have HQ2 := Lib.hid (T2.out.trans (hq2.mono (by simp))); clear hq1 hq2)
      generalize D.counted.goes = E at *
      generalize hn : E.lasts.length = n at *
      have HN := Lib.hid hn
      have hnb : n ≤ 16384 := by have := HQ1.out.ok.size; omega
      clear hn
      go_loopg [4] n (fun k i wr => ∃ j, OnAt n i k j ∧ RefAt wr r L W H (E.settle (DiskS.upto j)) ∧ Tch [r, L, W, H] w wr)
      case atStart => exact ⟨0, ⟨Nat.zero_le _, rfl, rfl⟩, by rw [show DiskS.upto 0 = [] from rfl, DiskS.settle_nil]; exact HQ1.out, HQ2.out⟩
      case round =>
        obtain ⟨j, ⟨hj, rfl, rfl⟩, hR, ht⟩ := hrel
        have hl : (E.settle (DiskS.upto j)).lasts.length = n := by rw [DiskS.settle_len]; exact HN.out
        have c2 := cell_of_row wr r 2 _ _ _ hR.hr
        simp only [List.getElem?_toArray, List.getElem?_cons_zero, List.getElem?_cons_succ, hl] at c2
        have R1 := Lib.hid hR
        have T1 := Lib.hid ht
        by_cases hjn : j < n
        · have cH := cell_of_row wr H j _ _ _ hR.hH
          rw [hasA_get _ j (by rw [hl]; exact hjn)] at cH
          clear hR ht
          have SN := Lib.hid (DiskS.settle_none E (DiskS.upto j) (j : Int))
          have SS := Lib.hid (DiskS.settle_some E (DiskS.upto j) j)
          generalize E.settle (DiskS.upto j) = F at *
          have HF := Lib.hid hl
          cases hw : F.waits (j : Int) with
          | none =>
            have hs : (F.waits j).isSome = false := by rw [hw]; rfl
            rw [hs] at cH
            have S1 := Lib.hid (SN.out hw)
            clear hs hw hl
            go_wp2_with fail
            go_roundg (n - (j + 1))
            case measure => omega
            case rel => exact ⟨j + 1, ⟨by omega, by go_num, rfl⟩, by rw [DiskS.upto_succ, S1.out]; exact R1.out, T1.out⟩
          | some s =>
            have hs : (F.waits j).isSome = true := by rw [hw]; rfl
            rw [hs] at cH
            have S1 := Lib.hid (SS.out s hw)
            obtain ⟨ws, g1, g2, g3⟩ := R1.out.hW
            have G4 := Lib.hid (g3 j s hw)
            have G1 := Lib.hid ((Tch.refl [] wr).drew.heap g1 (by simp))
            have GL := Lib.hid ((Tch.refl [] wr).drew.heap R1.out.hL (by simp))
            have c0 := cell_of_row wr.drew r 0 _ _ _ ((Tch.refl [] wr).drew.heap R1.out.hr (by simp))
            have c1 := cell_of_row wr.drew r 1 _ _ _ ((Tch.refl [] wr).drew.heap R1.out.hr (by simp))
            simp only [List.getElem?_toArray, List.getElem?_cons_zero, List.getElem?_cons_succ, hl] at c0 c1
            have hjF : j < F.lasts.length := by rw [hl]; exact hjn
            clear hs hw g1 g2 g3 hl
            go_wp2_with fail
            refine wp_region_still_tail 13 (by kernel_rfl) (by kernel_rfl) ?_
            simp only [List.take_succ_cons, List.take_zero, List.drop_succ_cons, List.drop_zero]
            still_step; still_step; still_step; still_step; still_step; still_step; still_step; still_step; still_step; still_step; still_step
            apply ws_load_row secT G1.out G4.out
            · exact rfl
            go_frame
            still_step
            refine wpStill_nil ?_
            apply wc_store_row secT GL.out hjF
            · exact rfl
            · exact rfl
            go_frame
            have h5 := R1.out.lay1 j s
            have t5 : Tch [r, L, W, H] w (wr.drew.setRow L (secsA (F.lasts.set j s))) := T1.out.drew.setRow (.inl (by simp)) _
            have hl5 : (F.lay1 j s).lasts.length = n := by simpa [DiskS.lay1] using HF.out
            generalize wr.drew.setRow L (secsA (F.lasts.set j s)) = W5 at *
            have c2' := cell_of_row W5 r 2 _ _ _ h5.hr
            simp only [List.getElem?_toArray, List.getElem?_cons_zero, List.getElem?_cons_succ, hl5] at c2'
            have cH' := cell_of_row W5 H j _ _ _ h5.hH
            rw [hasA_get _ j (by rw [hl5]; exact hjn)] at cH'
            have fH' := frozen_of_row W5 H j _ _ h5.hH
            have H5 := Lib.hid h5
            have T5 := Lib.hid t5
            clear h5 t5 c0 c1 cH c2 hl5
            go_wp2_with fail
            go_roundg (n - (j + 1))
            case measure => omega
            case rel => exact ⟨j + 1, ⟨by omega, by go_num, rfl⟩, by rw [DiskS.upto_succ, S1.out]; exact H5.out.drop1 j, T5.out.setCell (by simp) _⟩
        · clear hR ht
          have ej : j = n := by omega
          have e8 : E.settle (DiskS.upto j) = E.flushed := by
            have e9 := DiskS.settle_all E HQ1.out.ok
            rw [HN.out] at e9
            rw [ej]; exact e9
          have E8 := Lib.hid e8
          clear e8 ej hl
          go_wp2_with fail
          go_ret
          rw [E1.out]
          have h9 := R1.out
          rw [E8.out] at h9
          exact ⟨rfl, h9, T1.out⟩

set_option maxRecDepth 20000 in
set_option maxHeartbeats 2000000 in
theorem refOn_any {w : World} {r L W H : Nat} {D : DiskS} (h : RefAt w r L W H D) (a : Option Addr) (cap : Nat) (l : List Int) (hla : IntsAt w a l) (hlen : l.length ≤ 9223372036854775807)
    (hap : ∀ x, l ≠ [] → a = some x → x.block ∉ [r, L, W, H]) :
    Calls Tryz.prog 35 #[.pointer (some ⟨r, 0, none⟩), .slice a l.length cap] w fun e w' =>
      e = .returned (.int .i64 (D.on l).1) ∧ RefAt w' r L W H (D.on l).2 ∧ Tch [r, L, W, H] w w' := by
  have c3 := cell_of_row w r 3 _ _ _ h.hr
  have f3 := frozen_of_row w r 3 _ _ h.hr
  simp only [List.getElem?_toArray, List.getElem?_cons_zero, List.getElem?_cons_succ] at c3
  have H1 := Lib.hid h
  have HLI := Lib.hid hla
  have HAP := Lib.hid hap
  clear h hla hap
  cases hdd : D.dead with
  | false =>
    have e1 : D.on l = (70, D) := by unfold DiskS.on; rw [if_neg (by simp [hdd])]
    have E1 := Lib.hid e1
    rw [hdd] at c3
    clear hdd e1
    go_enter Tryz.func35, Tryz.ntmps35
    go_wp2
    go_ret
    rw [E1.out]
    exact ⟨rfl, H1.out, Tch.refl _ _⟩
  | true =>
    rw [hdd] at c3
    have e1 : D.on l = (0, { D with dead := false, lasts := DiskS.lay D.lasts (D.kept l), waits := fun _ => none }) := by unfold DiskS.on; rw [if_pos hdd]
    have E1 := Lib.hid e1
    have h2 : RefAt (w.setCell ⟨r, 3, none⟩ (.bool false)) r L W H { D with dead := false } :=
      H1.out.head ((Tch.refl _ _).setCell (by simp) _) rfl rfl ⟨H1.out.ok.some, H1.out.ok.size, H1.out.ok.sup, H1.out.ok.arm0, H1.out.ok.arm1⟩ (by rw [heap_setCell_cells H1.out.hr _ _]; rfl)
    have t2 : Tch [r, L, W, H] w (w.setCell ⟨r, 3, none⟩ (.bool false)) := (Tch.refl _ _).setCell (by simp) _
    have H2 := Lib.hid h2
    have T2 := Lib.hid t2
    have e2 : ∀ k, { (({ D with dead := false } : DiskS).settle l) with waits := k } = { D with dead := false, lasts := DiskS.lay D.lasts (D.kept l), waits := k } := fun k => rfl
    have E2 := Lib.hid e2
    clear h2 t2 hdd e1 e2
    go_enter Tryz.func35, Tryz.ntmps35
    go_wp2_with fail
    generalize ({ D with dead := false } : DiskS) = E at *
    generalize hn : E.lasts.length = n at *
    generalize hm : l.length = m at *
    have HN := Lib.hid hn
    have HM := Lib.hid hm
    have hnb : n ≤ 16384 := by have := H2.out.ok.size; omega
    clear hn hm
    go_loopg [5, 6] m (fun k i u wr => ∃ j, OnAt m i k j ∧ RefAt wr r L W H (E.settle (l.take j)) ∧ Tch [r, L, W, H] w wr)
    case atStart => exact ⟨0, ⟨Nat.zero_le _, rfl, rfl⟩, by rw [List.take_zero, DiskS.settle_nil]; exact H2.out, T2.out⟩
    case round =>
      obtain ⟨j, ⟨hj, rfl, rfl⟩, hR, ht⟩ := hrel
      have hl : (E.settle (l.take j)).lasts.length = n := by rw [DiskS.settle_len]; exact HN.out
      have c2 := cell_of_row wr r 2 _ _ _ hR.hr
      simp only [List.getElem?_toArray, List.getElem?_cons_zero, List.getElem?_cons_succ, hl] at c2
      have R1 := Lib.hid hR
      have T1 := Lib.hid ht
      by_cases hjm : j < m
      · have hlm : l.length = m := HM.out
        have hx : l[j]? = some (l[j]'(by omega)) := List.getElem?_eq_getElem _
        obtain ⟨kb, ko, rfl, hc⟩ := HLI.out j _ hx
        have hne : l ≠ [] := fun e => by have h0 : l.length = 0 := by rw [e]; rfl
                                         omega
        have hck := (World.cell?_of_block (w := w) (a := ⟨kb, ko + j, none⟩) (ht.block kb (block_lt_of_cell hc) (HAP.out _ hne rfl))).trans hc
        have HX := Lib.hid (take_snoc_get l j _ hx)
        have SN := Lib.hid (fun x => DiskS.settle_none E (l.take j) x)
        have SS := Lib.hid (DiskS.settle_some E (l.take j))
        generalize l[j]'(by omega) = x at *
        generalize E.settle (l.take j) = F at *
        have HF := Lib.hid hl
        clear hx hc hlm ht hne
        by_cases hx0 : x < 0
        · have hw : F.waits x = none := by
            cases hw : F.waits x with
            | none => rfl
            | some s => have := (R1.out.ok.sup x s hw).1; omega
          have S1 := Lib.hid (SN.out x hw)
          clear hw hl hR
          go_wp2_with fail
          go_roundg (m - (j + 1))
          case measure => omega
          case rel => exact ⟨j + 1, ⟨by omega, by go_num, rfl⟩, by rw [HX.out, S1.out]; exact R1.out, T1.out⟩
        · by_cases hxn : x < n
          · obtain ⟨i, rfl⟩ := Int.eq_ofNat_of_zero_le (show 0 ≤ x by omega)
            have hin : i < n := by omega
            have cH := cell_of_row wr H i _ _ _ hR.hH
            rw [hasA_get _ i (by rw [hl]; exact hin)] at cH
            clear hR
            cases hw : F.waits (i : Int) with
            | none =>
              have hs : (F.waits i).isSome = false := by rw [hw]; rfl
              rw [hs] at cH
              have S1 := Lib.hid (SN.out i hw)
              clear hs hw hl
              go_wp2_with fail
              go_roundg (m - (j + 1))
              case measure => omega
              case rel => exact ⟨j + 1, ⟨by omega, by go_num, rfl⟩, by rw [HX.out, S1.out]; exact R1.out, T1.out⟩
            | some s =>
              have hs : (F.waits i).isSome = true := by rw [hw]; rfl
              rw [hs] at cH
              have S1 := Lib.hid (SS.out i s hw)
              obtain ⟨ws, g1, g2, g3⟩ := R1.out.hW
              have G4 := Lib.hid (g3 i s hw)
              have G1 := Lib.hid ((Tch.refl [] wr).drew.heap g1 (by simp))
              have GL := Lib.hid ((Tch.refl [] wr).drew.heap R1.out.hL (by simp))
              have c0 := cell_of_row wr.drew r 0 _ _ _ ((Tch.refl [] wr).drew.heap R1.out.hr (by simp))
              have c1 := cell_of_row wr.drew r 1 _ _ _ ((Tch.refl [] wr).drew.heap R1.out.hr (by simp))
              simp only [List.getElem?_toArray, List.getElem?_cons_zero, List.getElem?_cons_succ, hl] at c0 c1
              have hjF : i < F.lasts.length := by rw [hl]; exact hin
              clear hs hw g1 g2 g3 hl
              go_wp2_with fail
              refine wp_region_still_tail 13 (by kernel_rfl) (by kernel_rfl) ?_
              simp only [List.take_succ_cons, List.take_zero, List.drop_succ_cons, List.drop_zero]
              still_step; still_step; still_step; still_step; still_step; still_step; still_step; still_step; still_step; still_step; still_step
              apply ws_load_row secT G1.out G4.out
              · exact rfl
              go_frame
              still_step
              refine wpStill_nil ?_
              apply wc_store_row secT GL.out hjF
              · exact rfl
              · exact rfl
              go_frame
              have h5 := R1.out.lay1 i s
              have t5 : Tch [r, L, W, H] w (wr.drew.setRow L (secsA (F.lasts.set i s))) := T1.out.drew.setRow (.inl (by simp)) _
              have hl5 : (F.lay1 i s).lasts.length = n := by simpa [DiskS.lay1] using HF.out
              generalize wr.drew.setRow L (secsA (F.lasts.set i s)) = W5 at *
              have c2' := cell_of_row W5 r 2 _ _ _ h5.hr
              simp only [List.getElem?_toArray, List.getElem?_cons_zero, List.getElem?_cons_succ, hl5] at c2'
              have cH' := cell_of_row W5 H i _ _ _ h5.hH
              rw [hasA_get _ i (by rw [hl5]; exact hin)] at cH'
              have fH' := frozen_of_row W5 H i _ _ h5.hH
              have H5 := Lib.hid h5
              have T5 := Lib.hid t5
              clear h5 t5 c0 c1 cH c2 hl5 hck
              go_wp2_with fail
              go_roundg (m - (j + 1))
              case measure => omega
              case rel => exact ⟨j + 1, ⟨by omega, by go_num, rfl⟩, by rw [HX.out, S1.out]; exact H5.out.drop1 i, T5.out.setCell (by simp) _⟩
          · have hw : F.waits x = none := by
              cases hw : F.waits x with
              | none => rfl
              | some s => have := (R1.out.ok.sup x s hw).2; omega
            have S1 := Lib.hid (SN.out x hw)
            clear hw hl hR
            go_wp2_with fail
            go_roundg (m - (j + 1))
            case measure => omega
            case rel => exact ⟨j + 1, ⟨by omega, by go_num, rfl⟩, by rw [HX.out, S1.out]; exact R1.out, T1.out⟩
      · have ej : l.take j = l := List.take_of_length_le (by have : l.length = m := HM.out; omega)
        rw [ej] at R1 hl
        clear hR ht ej c2
        have HL2 := Lib.hid hl
        have E3 := Lib.hid (fun k => (E2.out k))
        generalize E.settle l = F at *
        clear hl
        go_wp2_with fail
        go_loopg [7] n (fun k i wr => ∃ j, OnAt n i k j ∧ RefAt wr r L W H { F with waits := fun i => if 0 ≤ i ∧ i < j then none else F.waits i } ∧ Tch [r, L, W, H] w wr)
        case atStart => exact ⟨0, ⟨Nat.zero_le _, rfl, rfl⟩, by
          have : (fun i : Int => if 0 ≤ i ∧ i < ((0 : Nat) : Int) then none else F.waits i) = F.waits := by funext i; rw [if_neg (by omega)]
          rw [this]; exact R1.out, T1.out⟩
        case round =>
          obtain ⟨j, ⟨hj, rfl, rfl⟩, hR, ht⟩ := hrel
          have T1 := Lib.hid ht
          by_cases hjn : j < n
          · have e5 : ({ F with waits := fun i => if 0 ≤ i ∧ i < ((j + 1 : Nat) : Int) then none else F.waits i } : DiskS) = ({ F with waits := fun i => if 0 ≤ i ∧ i < (j : Int) then none else F.waits i } : DiskS).drop1 j := by
              unfold DiskS.drop1
              congr 1
              funext i
              by_cases e : i = (j : Int)
              · subst e; rw [if_pos (by omega)]; simp
              · simp only [e, if_false]
                by_cases e' : 0 ≤ i ∧ i < (j : Int)
                · rw [if_pos (by omega), if_pos e']
                · rw [if_neg (by omega), if_neg e']
            have E5 := Lib.hid e5
            have hl : ({ F with waits := fun i => if 0 ≤ i ∧ i < (j : Int) then none else F.waits i } : DiskS).lasts.length = n := HL2.out
            generalize ({ F with waits := fun i => if 0 ≤ i ∧ i < (j : Int) then none else F.waits i } : DiskS) = G at *
            have c2 := cell_of_row wr r 2 _ _ _ hR.hr
            simp only [List.getElem?_toArray, List.getElem?_cons_zero, List.getElem?_cons_succ, hl] at c2
            have cH := cell_of_row wr H j _ _ _ hR.hH
            rw [hasA_get _ j (by rw [hl]; exact hjn)] at cH
            have fH := frozen_of_row wr H j _ _ hR.hH
            have R2 := Lib.hid hR
            clear hR ht hl e5
            go_wp2_with fail
            go_roundg (n - (j + 1))
            case measure => omega
            case rel => exact ⟨j + 1, ⟨by omega, by go_num, rfl⟩, by rw [E5.out]; exact R2.out.drop1 j, T1.out.setCell (by simp) _⟩
          · have ej : (fun i : Int => if 0 ≤ i ∧ i < (j : Int) then none else F.waits i) = fun _ => none := by
              funext i
              by_cases e : 0 ≤ i ∧ i < (j : Int)
              · rw [if_pos e]
              · rw [if_neg e]
                cases hw : F.waits i with
                | none => rfl
                | some s =>
                  have := R1.out.ok.sup i s hw
                  have := HL2.out
                  omega
            rw [ej, E3.out] at hR
            have hl : F.lasts.length = n := HL2.out
            have R2 : Hid (RefAt wr r L W H (D.on l).2) := by rw [E1.out]; exact hR
            have c2 := cell_of_row wr r 2 _ _ _ hR.hr
            have hl2 : (DiskS.lay D.lasts (D.kept l)).length = n := by
              have e7 := congrArg (fun X : DiskS => X.lasts.length) (E3.out (fun _ => none))
              simp only at e7
              rw [← e7]; exact hl
            simp only [List.getElem?_toArray, List.getElem?_cons_zero, List.getElem?_cons_succ, hl2] at c2
            have E4 : Hid ((D.on l).1 = 0) := congrArg Prod.fst E1.out
            clear hR ht hl hl2 ej E1 E2 E3
            go_wp2_with fail
            go_ret
            rw [E4.out]
            exact ⟨rfl, R2.out, T1.out⟩
end Go.Proofs.YthbaipljlbddcaaGreat
/-
  The document's own disk in memory: New.
-/
namespace Go.Cib
open Go Go.RowKit
theorem exec_makeRows {P : Program} {T E : TypeId} {a : Act} {w : World} {dst : Option Tmp} {ty : TypeId} {pos : String} {af : Array Edge} {x y : Operand} {gd : Option (Nat × Bool)}
    (hT : P.underlying T = some (.slice E)) {i : TypeInfo} (hi : P.info? E = some i) {z : Value} (hz : i.zero = some z) (hs : z.cells.size = i.size) {n : Nat}
    (hb : i.bytes * n ≤ 281474976710656) (hn : n ≤ 9223372036854775807) (hx : a.eval x = .int .i64 n) (hy : a.eval y = .int .i64 n) :
    (execOp a.eval ⟨dst, .makeSlice T x y, ty, pos, af, gd⟩).run P w = .ok (.value (.slice (some ⟨w.heap.size, 0, none⟩) n n)) (w.alloc (.cells (rowsA (List.replicate n z.cells)) E)) := by
  have hm := madeRows z.cells n
  have hr := run_make (P := P) w T E i z hT hi hz .i64 .i64 n n (by omega) (by omega) (by rw [← Int.natCast_mul]; omega) (by omega)
  simp only [Int.toNat_natCast] at hr
  rw [← hs, show madeCells z.cells (n * z.cells.size) = _ from hm] at hr
  unfold execOp
  simp [hx, hy, hr]
theorem exec_makeArrs {P : Program} {T E : TypeId} {a : Act} {w : World} {dst : Option Tmp} {ty : TypeId} {pos : String} {af : Array Edge} {x y : Operand} {gd : Option (Nat × Bool)}
    {n : Nat} (hE : BytesT P E n) (hT : P.underlying T = some (.slice E)) {m : Nat} (hb : n * m ≤ 281474976710656) (hm : m ≤ 9223372036854775807) (hx : a.eval x = .int .i64 m) (hy : a.eval y = .int .i64 m) :
    (execOp a.eval ⟨dst, .makeSlice T x y, ty, pos, af, gd⟩).run P w = .ok (.value (.slice (some ⟨w.heap.size, 0, none⟩) m m)) (w.alloc (.cells (secsA (List.replicate m (Arr.zero : Arr n))) E)) := by
  obtain ⟨i, h1, h2, h3, h4⟩ := hE.info
  rw [exec_makeRows hT h1 h4 (by simp [Value.cells, h2]) (by rw [h3]; exact hb) hm hx hy, show (Value.agg (bytesA (List.replicate n 0))).cells = secA (Arr.zero : Arr n) from rfl, rows_zero]
theorem wanted_none {o : Oper} {y : Nat → Option Bool} (h : o.guard = none) : Region.wanted o y = true := by unfold Region.wanted; rw [h]
theorem flat_rep (v : Value) : ∀ k, (List.replicate k #[v]).flatMap Array.toList = List.replicate k v
  | 0 => rfl
  | k + 1 => by rw [List.replicate_succ, List.replicate_succ, List.flatMap_cons, flat_rep v k]; rfl
theorem stpR_ok {P : Program} {K : Value → World → Prop} {r : Result Next} {u : Value} {w : World} (h : r = .ok (.value u) w) (hK : K u w) : StpR P K r := by rw [h]; exact hK
theorem full_eval {a0 : Act} {l : List Oper} {n : Nat} {vs : Nat → Value} (hB : invB l.toArray n = true) {t j : Nat} (ht : t < a0.tmps.size) (hj : headOf l.toArray n t = some j) (hl : (listedN l.toArray.size n).getD j false = true) :
    (fullOf a0 l n vs).eval (.tmp t) = vs j := by
  simp only [invB, Bool.and_eq_true, Bool.or_eq_true, decide_eq_true_eq] at hB
  obtain ⟨⟨⟨⟨_, hn⟩, _⟩, hhead⟩, _⟩ := hB
  have h := (putAll_agreeF (a0 := a0) (vs := vs) hhead (by simpa using hn)).tmps t ht
  rw [hj] at h
  simp only [hl, if_true] at h
  show (fullOf a0 l n vs).tmps.getD t undef = vs j
  rw [Array.getD_eq_getD_getElem?, h]
  rfl
theorem full_old {a0 : Act} {l : List Oper} {n : Nat} {vs : Nat → Value} (hB : invB l.toArray n = true) {t : Nat} (ht : t < a0.tmps.size) (hj : headOf l.toArray n t = none) :
    (fullOf a0 l n vs).eval (.tmp t) = a0.tmps.getD t undef := by
  simp only [invB, Bool.and_eq_true, Bool.or_eq_true, decide_eq_true_eq] at hB
  obtain ⟨⟨⟨⟨_, hn⟩, _⟩, hhead⟩, _⟩ := hB
  have h := (putAll_agreeF (a0 := a0) (vs := vs) hhead (by simpa using hn)).tmps t ht
  rw [hj] at h
  show (fullOf a0 l n vs).tmps.getD t undef = _
  rw [Array.getD_eq_getD_getElem?, h]
  rfl
theorem exec_move {P : Program} {a : Act} {w : World} {dst : Option Tmp} {ty : TypeId} {pos : String} {af : Array Edge} {x : Operand} {gd : Option (Nat × Bool)} {v : Value} (hx : a.eval x = v) :
    (execOp a.eval ⟨dst, .move x, ty, pos, af, gd⟩).run P w = .ok (.value v) w := by
  subst hx
  unfold execOp
  simp
/-- A frame of a region's values, its slots said. -/
structure MadeI (kind : Nat → Obj) (n : Nat) (w0 : World) (listed : Array Bool) (vs : Nat → Value) (w : World) : Prop where
  tch : Tch [] w0 w
  even : ∀ j, j % 2 = 0 → listed.getD j false = true → vs j = .int .i64 n
  odd : ∀ j, j % 2 = 1 → listed.getD j false = true → ∃ b, vs j = .slice (some ⟨b, 0, none⟩) n n ∧ w0.heap.size ≤ b ∧ w.heap[b]? = some (kind j)
  ne : ∀ i j, i % 2 = 1 → j % 2 = 1 → i ≠ j → listed.getD i false = true → listed.getD j false = true → vs i ≠ vs j
theorem listed_ne {listed : Array Bool} {i j : Nat} (h : j ≠ i) : (listed.setIfInBounds i true).getD j false = listed.getD j false := by
  simp only [Array.getD_eq_getD_getElem?]
  rw [Array.getElem?_setIfInBounds_ne (Ne.symm h)]
theorem MadeI.move {kind : Nat → Obj} {n : Nat} {w0 w : World} {listed : Array Bool} {vs : Nat → Value} (h : MadeI kind n w0 listed vs w) (i : Nat) (hi : i % 2 = 0) : MadeI kind n w0 (listed.setIfInBounds i true) (updV vs i (.int .i64 n)) w := by
  refine ⟨h.tch, fun j hj hl => ?_, fun j hj hl => ?_, fun j k hj hk hne hlj hlk => ?_⟩
  · unfold updV
    by_cases e : j = i
    · rw [if_pos e]
    · rw [if_neg e]; exact h.even j hj (by rwa [listed_ne e] at hl)
  · have e : j ≠ i := by omega
    simp only [updV, if_neg e]
    exact h.odd j hj (by rwa [listed_ne e] at hl)
  · have e : j ≠ i := by omega
    have e' : k ≠ i := by omega
    simp only [updV, if_neg e, if_neg e']
    exact h.ne j k hj hk hne (by rwa [listed_ne e] at hlj) (by rwa [listed_ne e'] at hlk)
theorem MadeI.make {kind : Nat → Obj} {n : Nat} {w0 w : World} {listed : Array Bool} {vs : Nat → Value} (h : MadeI kind n w0 listed vs w) (i : Nat) (hi : i % 2 = 1) : MadeI kind n w0 (listed.setIfInBounds i true) (updV vs i (.slice (some ⟨w.heap.size, 0, none⟩) n n)) (w.alloc (kind i)) := by
  have old : ∀ j, j % 2 = 1 → listed.getD j false = true → vs j ≠ .slice (some ⟨w.heap.size, 0, none⟩) n n := by
    intro j hj hl e
    obtain ⟨b, h1, _, h3⟩ := h.odd j hj hl
    rw [h1] at e
    injection e with e
    injection e with e
    injection e with e
    exact ne_size h3 e
  refine ⟨h.tch.alloc _, fun j hj hl => ?_, fun j hj hl => ?_, fun j k hj hk hne hlj hlk => ?_⟩
  · have e : j ≠ i := by omega
    simp only [updV, if_neg e]
    exact h.even j hj (by rwa [listed_ne e] at hl)
  · by_cases e : j = i
    · subst e
      exact ⟨w.heap.size, by simp [updV], h.tch.size, by rw [heap_alloc, if_pos rfl]⟩
    · simp only [updV, if_neg e]
      obtain ⟨b, h1, h2, h3⟩ := h.odd j hj (by rwa [listed_ne e] at hl)
      exact ⟨b, h1, h2, by rw [heap_alloc, if_neg (ne_size h3)]; exact h3⟩
  · by_cases e : j = i
    · subst e
      have e' : k ≠ j := Ne.symm hne
      simp only [updV, if_neg e', if_true]
      exact Ne.symm (old k hk (by rwa [listed_ne e'] at hlk))
    · by_cases e' : k = i
      · subst e'
        simp only [updV, if_neg e, if_true]
        exact old j hj (by rwa [listed_ne e] at hlj)
      · simp only [updV, if_neg e, if_neg e']
        exact h.ne j k hj hk hne (by rwa [listed_ne e] at hlj) (by rwa [listed_ne e'] at hlk)
end Go.Cib
namespace Go.Proofs.YthbaipljlbddcaaGreat
open Go.RowKit Go.Cib

theorem refNew_no (w : World) (n : Int) (hn : n < 1 ∨ 16384 < n) :
    Calls Tryz.prog 24 #[.int .i64 n] w fun e w' => e = .returned (.tuple #[.pointer none, .int .i64 2]) ∧ w = w' := by
  by_cases h1 : n < 1
  · go_enter Tryz.func24, Tryz.ntmps24
    go_wp2
    go_ret2
    exact ⟨rfl, rfl⟩
  · have h2 : 16384 < n := by omega
    go_enter Tryz.func24, Tryz.ntmps24
    go_wp2
    go_ret2
    exact ⟨rfl, rfl⟩

theorem uBools : Tryz.prog.underlying 47 = some (.slice 4) := by kernel_rfl
theorem infoBool : (Tryz.prog.info? 4).map (fun i => (i.zero, i.size, i.bytes)) = some (some (.bool false), 1, 1) := by kernel_rfl
def refKind (n : Nat) (j : Nat) : Obj := if j = 5 then .cells (rowsA (List.replicate n (Value.bool false).cells)) 4 else .cells (secsA (List.replicate n (Arr.zero : Sec))) 26

theorem refKind_sec (n j : Nat) (h : j ≠ 5) : refKind n j = .cells (secsA (List.replicate n (Arr.zero : Sec))) 26 := by unfold refKind; rw [if_neg h]
theorem refKind_bool (n : Nat) : refKind n 5 = .cells (rowsA (List.replicate n (Value.bool false).cells)) 4 := by unfold refKind; rw [if_pos rfl]
set_option maxRecDepth 20000 in
set_option maxHeartbeats 1000000 in
theorem refNew_any (w : World) (n : Nat) (h1 : 1 ≤ n) (h2 : n ≤ 16384) :
    Calls Tryz.prog 24 #[.int .i64 n] w fun e w' => ∃ r L W H, e = .returned (.tuple #[.pointer (some ⟨r, 0, none⟩), .int .i64 0]) ∧
      RefAt w' r L W H (DiskS.made n) ∧ Tch [] w w' ∧ w.heap.size ≤ r ∧ w.heap.size ≤ L ∧ w.heap.size ≤ W ∧ w.heap.size ≤ H := by
  obtain ⟨ib, hib, hib2⟩ := Option.map_eq_some_iff.1 infoBool
  simp only [Prod.mk.injEq] at hib2
  go_enter Tryz.func24, Tryz.ntmps24
  go_wp2_with fail
  refine wp_region_rel 6 (MadeI (refKind n) n w) (by kernel_rfl) (by kernel_rfl) (fun vs => ?_) ?_ ?_
  · exact ⟨(Tch.refl _ _).drew, fun j _ hl => (by rw [getD_replicate_false] at hl; cases hl), fun j _ hl => (by rw [getD_replicate_false] at hl; cases hl), fun i j _ _ _ hl => (by rw [getD_replicate_false] at hl; cases hl)⟩
  · intro i o hi ho listed vs wv hinv hsz hl hwait
    have hi6 : i = 0 ∨ i = 1 ∨ i = 2 ∨ i = 3 ∨ i = 4 ∨ i = 5 := by omega
    rcases hi6 with rfl | rfl | rfl | rfl | rfl | rfl
    all_goals (simp only [List.getElem?_cons_zero, List.getElem?_cons_succ, Option.some.injEq] at ho; subst ho; refine ⟨fun _ => ?_, fun hg => Bool.noConfusion ((wanted_none rfl).symm.trans hg)⟩)
    · refine stpR_ok (exec_move (v := .int .i64 n) ?_) (hinv.move 0 rfl)
      refine (full_old (t := 0) ?_ (by show _ < 18; omega) ?_).trans ?_
      · kernel_rfl
      · kernel_rfl
      · rfl
    · have e0 := hinv.even 0 rfl (hwait 0 (by kernel_rfl))
      generalize hfu : fullOf _ _ 6 vs = fu
      have hx : fu.eval (.tmp 10) = .int .i64 n := by
        rw [← hfu]
        refine (full_eval (t := 10) (j := 0) ?_ (by show _ < 18; omega) ?_ ?_).trans e0 <;> kernel_rfl
      clear hfu
      refine stpR_ok (exec_makeArrs secT uSecs (m := n) (by omega) (by omega) hx hx) ?_
      rw [← refKind_sec n 1 (by decide)]; exact hinv.make 1 rfl
    · refine stpR_ok (exec_move (v := .int .i64 n) ?_) (hinv.move 2 rfl)
      refine (full_old (t := 0) ?_ (by show _ < 18; omega) ?_).trans ?_
      · kernel_rfl
      · kernel_rfl
      · rfl
    · have e0 := hinv.even 2 rfl (hwait 2 (by kernel_rfl))
      generalize hfu : fullOf _ _ 6 vs = fu
      have hx : fu.eval (.tmp 12) = .int .i64 n := by
        rw [← hfu]
        refine (full_eval (t := 12) (j := 2) ?_ (by show _ < 18; omega) ?_ ?_).trans e0 <;> kernel_rfl
      clear hfu
      refine stpR_ok (exec_makeArrs secT uSecs (m := n) (by omega) (by omega) hx hx) ?_
      rw [← refKind_sec n 3 (by decide)]; exact hinv.make 3 rfl
    · refine stpR_ok (exec_move (v := .int .i64 n) ?_) (hinv.move 4 rfl)
      refine (full_old (t := 0) ?_ (by show _ < 18; omega) ?_).trans ?_
      · kernel_rfl
      · kernel_rfl
      · rfl
    · have e0 := hinv.even 4 rfl (hwait 4 (by kernel_rfl))
      generalize hfu : fullOf _ _ 6 vs = fu
      have hx : fu.eval (.tmp 14) = .int .i64 n := by
        rw [← hfu]
        refine (full_eval (t := 14) (j := 4) ?_ (by show _ < 18; omega) ?_ ?_).trans e0 <;> kernel_rfl
      clear hfu
      refine stpR_ok (exec_makeRows uBools hib hib2.1 (by rw [hib2.2.1]; rfl) (n := n) (by rw [hib2.2.2]; omega) (by omega) hx hx) ?_
      rw [← refKind_bool n]; exact hinv.make 5 rfl
  · intro vs wv hinv
    obtain ⟨b1, e1, l1, g1⟩ := hinv.odd 1 rfl (by kernel_rfl)
    obtain ⟨b3, e3, l3, g3⟩ := hinv.odd 3 rfl (by kernel_rfl)
    obtain ⟨b5, e5, l5, g5⟩ := hinv.odd 5 rfl (by kernel_rfl)
    have n13 : b1 ≠ b3 := by have := hinv.ne 1 3 rfl rfl (by omega) (by kernel_rfl) (by kernel_rfl); rw [e1, e3] at this; rintro rfl; exact this rfl
    have n15 : b1 ≠ b5 := by have := hinv.ne 1 5 rfl rfl (by omega) (by kernel_rfl) (by kernel_rfl); rw [e1, e5] at this; rintro rfl; exact this rfl
    have n35 : b3 ≠ b5 := by have := hinv.ne 3 5 rfl rfl (by omega) (by kernel_rfl) (by kernel_rfl); rw [e3, e5] at this; rintro rfl; exact this rfl
    simp only [fullOf, List.drop_succ_cons, List.drop_zero, List.take_succ_cons, List.take_zero, List.range_succ, List.range_zero, List.nil_append, List.cons_append, List.map_cons, List.map_nil, putAll, e1, e3, e5]
    have HI := Lib.hid hinv
    clear hinv e1 e3 e5
    go_frame
    go_wp2_with fail
    go_ret2
    have sz : ∀ {b : Nat} {o : Obj}, wv.heap[b]? = some o → b ≠ wv.heap.size := fun h => ne_size h
    have hlen : (DiskS.made n).lasts.length = n := by simp [DiskS.made]
    rw [refKind_sec n 1 (by decide)] at g1
    rw [refKind_sec n 3 (by decide)] at g3
    rw [refKind_bool n] at g5
    refine ⟨wv.heap.size, b1, b3, b5, rfl, ⟨?_, ?_, ⟨List.replicate n Arr.zero, ?_, ?_, ?_⟩, ?_, (sz g1).symm, (sz g3).symm, (sz g5).symm, n13, n15, n35, DiskS.Ok.made h1 h2⟩, HI.out.tch.alloc _, HI.out.tch.size, l1, l3, l5⟩
    · rw [heap_alloc, if_pos rfl, hlen]
      rfl
    · rw [heap_alloc, if_neg (sz g1)]
      exact g1
    · rw [heap_alloc, if_neg (sz g3)]
      exact g3
    · rw [hlen]; simp
    · intro i s hs; simp [DiskS.made] at hs
    · rw [heap_alloc, if_neg (sz g5), g5]
      congr 2
      unfold hasA rowsA
      rw [hlen]
      simp only [DiskS.made, Value.cells, List.map_const', List.length_range, Option.isSome_none]
      rw [flat_rep]
end Go.Proofs.YthbaipljlbddcaaGreat
