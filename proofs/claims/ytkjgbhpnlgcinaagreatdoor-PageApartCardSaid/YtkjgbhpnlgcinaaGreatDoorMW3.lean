/-
  A record is in the log: package wal's took.
-/
import Derived.Test.YtkjgbhpnlgcinaaGreatDoorMW2
namespace Go.Cib
open Go Go.RowKit
section
variable {P : Program} {T e : TypeId} {ops : Array Oper} {rest : List Oper} {a : Act} {C : World → Prop} {Qs : Act → Prop} {dst : Option Tmp} {ty : TypeId} {pos : String} {af : Array Edge} {x y : Operand} {gd : Option (Nat × Bool)}
theorem img_page (n : Int) (p : Page) : (imageA n p).extract 1 (1 + 480) = secA p := by
  apply Array.toList_inj.1
  rw [Array.toList_extract, List.extract_eq_take_drop]
  have h1 : (imageA n p).toList = .int .i64 n :: (secA p).toList := by simp [imageA]
  rw [h1, List.drop_succ_cons, List.drop_zero, List.take_of_length_le (by rw [Array.length_toList, size_secA]; omega)]
theorem wq_load_imgpage (hT : AggT P T 480) {n : Int} {p : Page} {b : Nat} {e' : TypeId} {fr : Nat × Nat} (hb : ∀ w, C w → w.heap[b]? = some (.cells (imageA n p) e' fr)) (hw : Region.wanted ⟨dst, .load T x, ty, pos, af, gd⟩ (yielded ops a.tmps) = true) (hx : a.eval x = .pointer (some ⟨b, 1, none⟩))
    (h : wpQuiet P ops C Qs rest (a.put dst (.agg (secA p)))) : wpQuiet P ops C Qs (⟨dst, .load T x, ty, pos, af, gd⟩ :: rest) a :=
  wq_value hw (fun w hc => by rw [exec_load_agg hT rfl hx (hb w hc) (by rw [size_imageA]; omega), img_page]) h
end
/-- Pages laid over others. -/
def overs (o : Int → Option Page) (ws : List (Nat × Page)) : Int → Option Page := ws.foldl (fun o q p => if p = (q.1 : Int) then some q.2 else o p) o
theorem MapAt.ne_cells {κ : Type} {key : κ → Value} {w : World} {M : Nat} {f : κ → Option Value} (h : MapAt key w M f) {b : Nat} {c : Array Value} {e : TypeId} {fr : Nat × Nat} (hb : w.heap[b]? = some (.cells c e fr)) : b ≠ M := by
  rintro rfl
  obtain ⟨es, clk, h1, _⟩ := h
  rw [hb] at h1
  cases h1
end Go.Cib
namespace Go.Proofs.YtkjgbhpnlgcinaaGreatDoor
open Go.RowKit Go.Cib

set_option maxRecDepth 20000 in
set_option maxHeartbeats 1000000 in
theorem took_any {w : World} {g d L M V : Nat} {S : LogS} (h : LogAt w g d L M V S) {ia : Option Addr} {icap : Nat} {ws : List (Nat × Page)} (hI : ImgsAt w ia (ws.map fun q => ((q.1 : Int), q.2))) (hn : ws.length ≤ 120) (hu : S.used ≤ 4000) (hr : S.records ≤ 4000) :
    Calls Tryz.prog 88 #[.pointer (some ⟨g, 0, none⟩), .slice ia ws.length icap] w fun e w' =>
      e = .returned (.tuple #[]) ∧ LogAt w' g d L M V (S.took ws) ∧ Tch [g, V] w w' := by
  obtain ⟨m, hm⟩ : ∃ m, ws.length = m := ⟨_, rfl⟩
  rw [hm] at hn ⊢
  have H := Lib.hid h
  have HII := Lib.hid hI
  have HM := Lib.hid hm
  have hu0 : (0 : Int) ≤ S.used := by omega
  clear h hI hm
  go_enter Tryz.func88, Tryz.ntmps88
  go_wp2_with fail
  go_loopg [8] m (fun q i wr => ∃ j, OnAt m i q j ∧ LogAt wr g d L M V { S with over := overs S.over (ws.take j) } ∧ Tch [V] w wr)
  case atStart => exact ⟨0, ⟨Nat.zero_le _, rfl, rfl⟩, H.out, Tch.refl _ _⟩
  case round =>
    obtain ⟨j, ⟨hj, rfl, rfl⟩, hl, ht⟩ := hrel
    have LR := Lib.hid hl
    have TR := Lib.hid ht
    clear hl ht
    by_cases hjm : j < m
    · obtain ⟨q, hq⟩ : ∃ q, ws[j]? = some q := ⟨_, List.getElem?_eq_getElem (by rw [HM.out]; exact hjm)⟩
      have hq2 : (ws.map fun q => ((q.1 : Int), q.2))[j]? = some ((q.1 : Int), q.2) := by rw [List.getElem?_map, hq]; rfl
      obtain ⟨ib, ic, ie, ifr, rfl, hib, _⟩ := HII.out j _ hq2
      have hne : ib ≠ V := H.out.hV.ne_cells hib
      have IR := Lib.hid (HII.out.touch TR.out (by intro b hb; cases hb; simpa using hne))
      have HQ := Lib.hid hq
      have HQ2 := Lib.hid hq2
      clear hq hq2 hib
      go_upto_region 3 with (first | ((with_reducible apply wc_load_img imgT IR.out HQ2.out); exact rfl; go_frame) | ((with_reducible refine wc_alloc_img imgZero ?_); go_frame) | ((with_reducible apply wc_store_img_new imgT); (first | exact rfl | (simp only [World.size_alloc]; exact rfl)); exact rfl; go_frame))
      obtain ⟨w5, hw5⟩ : ∃ w5, wr.alloc (.cells (imageA q.1 q.2) 84) = w5 := ⟨_, rfl⟩
      rw [hw5]
      have t5 : Tch [] wr w5 := by rw [← hw5]; exact (Tch.refl _ _).alloc _
      have b5 : w5.heap[wr.heap.size]? = some (.cells (imageA q.1 q.2) 84) := by rw [← hw5]; exact heap_alloc_new _ _
      have c5 := cell_img0 b5
      have h5 := LR.out.touch t5 (by simp) (by simp) (by simp) (by simp) (by simp)
      have c6 := h5.cell 6 rfl
      have CB : Hid (∀ w', (∃ n, w' = World.drewN w5 n) → w'.heap[wr.heap.size]? = some (.cells (imageA q.1 q.2) 84)) := drewN_heap b5
      have T5 := Lib.hid t5
      have H5 := Lib.hid h5
      clear hw5 t5 b5 h5
      (refine wp_region_walk (C := fun w' => ∃ n, w' = World.drewN w5 n) 8 (by kernel_rfl) (by kernel_rfl) ⟨1, rfl⟩ ?_; simp only [List.take_succ_cons, List.take_zero, List.drop_succ_cons, List.drop_zero]; (repeat (first | ((with_reducible refine wq_load_imgpage pageT.agg CB.out ?_ ?_ ?_); exact rfl; exact rfl; go_frame) | go_big_quiet_step (fail))); refine wpQuiet_nil ?_; intro _ hw'; obtain ⟨nq, hw''⟩ := hw'; subst hw'')
      have t6 : Tch [] wr (w5.drewN nq) := T5.out.trans (tch_drewN w5 nq)
      have h6 := H5.out.touch (tch_drewN w5 nq) (by simp) (by simp) (by simp) (by simp) (by simp)
      refine wc_mapUpdate keyI uMapPage h6.hV (kk := (q.1 : Int)) (v := .agg (secA q.2)) rfl rfl rfl (fun w7 t7 h7 => ?_)
      have e7 : upd (fun i => (overs S.over (ws.take j) i).map fun x => Value.agg (secA x)) (q.1 : Int) (.agg (secA q.2)) = fun i => (overs S.over (ws.take (j + 1)) i).map fun x => Value.agg (secA x) := by
        rw [upd_arr, List.take_add_one, HQ.out]
        unfold overs
        rw [List.foldl_append]
        rfl
      rw [e7] at h7
      have h8 : LogAt w7 g d L M V { S with over := overs S.over (ws.take (j + 1)) } := ⟨t7.heap h6.hg (by simpa using h6.gV), h6.hD.touch t7 (by simpa using h6.dV) (by simpa using h6.LV) (by simpa using h6.MV), h7, h6.gd, h6.gL, h6.gM, h6.gV, h6.dV, h6.LV, h6.MV⟩
      have H8 := Lib.hid h8
      have T8 := Lib.hid (TR.out.trans ((t6.mono (by simp)).trans t7))
      clear h7 h8 t7 t6 h6 e7
      go_wp2_with fail
      go_roundg (m - (j + 1))
      case measure => omega
      case rel => exact ⟨j + 1, ⟨by omega, by go_num, rfl⟩, H8.out, T8.out⟩
    · have hfull : ws.take j = ws := List.take_of_length_le (by rw [HM.out]; omega)
      rw [hfull] at LR
      have hjm' : j = m := by omega
      subst hjm'
      have c4 := LR.out.cell 4 rfl
      have c5 := LR.out.cell 5 rfl
      have f4 := LR.out.froz 4
      have f5 := LR.out.froz 5
      have hgl := lt_of_heap LR.out.hg
      obtain ⟨u2, hu2⟩ : ∃ u2 : Nat, S.used + j + 2 = u2 := ⟨_, rfl⟩
      obtain ⟨r2, hr2⟩ : ∃ r2 : Nat, S.records + 1 = r2 := ⟨_, rfl⟩
      obtain ⟨w4, hw4⟩ : ∃ w4, wr.setCell ⟨g, 4, none⟩ (.int .i64 u2) = w4 := ⟨_, rfl⟩
      have eu : (S.used : Int) + (j + 2) = u2 := by omega
      have er : IntKind.u64.wrap ((S.records : Int) + 1) = r2 := by simp [IntKind.wrap, IntKind.bits, IntKind.signed]; omega
      have hb4 : w4.heap[g]? = some (.cells #[.pointer (some ⟨d, 0, none⟩), .int .i64 S.log, .int .i64 S.pages, .int .u64 S.gen, .int .i64 u2, .int .u64 S.records, .map (some V), .bool S.dead] 120) := by rw [← hw4, heap_setCell_cells LR.out.hg]; rfl
      have c54 : w4.cell? ⟨g, 5, none⟩ = some (.int .u64 S.records) := by rw [cell_of_row w4 g 5 _ _ _ hb4]; rfl
      have f54 := frozen_of_row w4 g 5 _ _ hb4
      have HB4 := Lib.hid hb4
      have HW4 := Lib.hid hw4
      have HU2 := Lib.hid hu2
      have HR2 := Lib.hid hr2
      clear hw4 hb4 hfull hu2 hr2
      go_upto_region 6 with fail
      rw [HW4.out]
      go_wp2_with fail
      go_end0
      have t9 : Tch [g] wr (w4.setCell ⟨g, 5, none⟩ (.int .u64 r2)) := by rw [← HW4.out]; exact ((Tch.refl _ _).setCell (by simp) _).setCell (by simp) _
      have hl := LR.out
      have e9 : S.took ws = { S with over := overs S.over ws, used := u2, records := r2 } := by
        unfold LogS.took overs
        rw [HM.out, HU2.out, HR2.out]
      rw [e9]
      refine ⟨rfl, ⟨?_, hl.hD.touch t9 (by simpa using hl.gd.symm) (by simpa using hl.gL.symm) (by simpa using hl.gM.symm), hl.hV.touch t9 (by simpa using hl.gV.symm), hl.gd, hl.gL, hl.gM, hl.gV, hl.dV, hl.LV, hl.MV⟩, (TR.out.mono (by simp)).trans (t9.mono (by simp))⟩
      rw [heap_setCell_cells HB4.out]; rfl
end Go.Proofs.YtkjgbhpnlgcinaaGreatDoor
/-
  Why images can't be written: package wal's may.
-/
namespace Go.Cib
open Go Go.RowKit
theorem wc_lookup1 {P : Program} {ops : Array Oper} {rest : List Oper} {a : Act} {w : World} {Q : Exit → Act → World → Prop} {dst : Option Tmp} {ty : TypeId} {pos : String} {af : Array Edge} {κ : Type} [DecidableEq κ] {T K E : TypeId} {key : κ → Value} {M : Nat} {f : κ → Option Value} {m k : Operand} (hK : KeyT P K key) (hT : P.underlying T = some (.map K E)) {z : Value} (hz : (zeroValue E).run P w = .ok z w) (hC : MapAt key w M f)
    {kk : κ} (hm : a.eval m = .map (some M)) (hk : a.eval k = key kk) (h : wpList P ops Q rest (a.put dst ((f kk).getD z)) w) : wpList P ops Q (⟨dst, .lookup T m k false, ty, pos, af, none⟩ :: rest) a w :=
  wc_value rfl (exec_lookup1 rfl hK hT hz hm hk hC) h
end Go.Cib
namespace Go.Proofs.YtkjgbhpnlgcinaaGreatDoor
open Go.RowKit Go.Cib
theorem uMapInt : Tryz.prog.underlying 176 = some (.map 3 3) := by kernel_rfl
theorem intZero (w : World) : (zeroValue 3).run Tryz.prog w = .ok (.int .i64 0) w := by kernel_rfl
/-- The numbers that were seen, each once. -/
def seenF (l : List Int) : Int → Option Value := fun i => if i ∈ l then some (.int .i64 1) else none
theorem seenF_push (l : List Int) (k : Int) : upd (seenF l) k (.int .i64 1) = seenF (l ++ [k]) := by
  funext i
  simp only [upd, seenF, List.mem_append, List.mem_singleton]
  by_cases h : i = k
  · simp [h]
  · simp [h]

set_option maxRecDepth 20000 in
set_option maxHeartbeats 1000000 in
theorem logMay_any {w : World} {g d L M V : Nat} {S : LogS} (h : LogAt w g d L M V S) {ia : Option Addr} {icap : Nat} {ws : List (Int × Page)} (hI : ImgsAt w ia ws) (hn : ws.length ≤ 100000) (hl3 : 3 ≤ S.log) (hl4 : S.log ≤ 4000) :
    Calls Tryz.prog 85 #[.pointer (some ⟨g, 0, none⟩), .slice ia ws.length icap] w fun e w' =>
      e = .returned (.int .i64 (S.may ws)) ∧ Tch [] w w' := by
  obtain ⟨m, hm⟩ : ∃ m, ws.length = m := ⟨_, rfl⟩
  rw [hm] at hn ⊢
  have H := Lib.hid h
  have HII := Lib.hid hI
  have HM := Lib.hid hm
  have hgw := lt_of_heap h.hg
  clear h hI hm
  go_enter Tryz.func85, Tryz.ntmps85
  go_wp2_with ((with_reducible apply wc_makeMap kInt); intro hm; have HMP := Lib.hid hm; clear hm; go_frame)
  obtain ⟨Bm, hBm⟩ : ∃ Bm, w.heap.size = Bm := ⟨_, rfl⟩
  rw [hBm] at HMP ⊢
  have HBM := Lib.hid hBm
  have t1 : Tch [] w (w.alloc (.map #[] 0)) := (Tch.refl _ _).alloc _
  have T1 := Lib.hid t1
  have hs1 : (w.alloc (.map #[] 0)).heap.size = Bm + 1 := by rw [World.size_alloc, hBm]
  clear t1 hBm
  generalize w.alloc (.map #[] 0) = w1 at *
  go_loopg [11] m (fun q i wr => ∃ j, OnAt m i q j ∧ MapAt kInt wr Bm (seenF ((ws.take j).map (·.1))) ∧ Tch [Bm] w1 wr ∧ (∀ x ∈ (ws.take j).map (fun q => q.1), (0 : Int) ≤ x ∧ x < (S.pages : Int)) ∧ ((ws.take j).map (·.1)).Nodup)
  case atStart =>
    refine ⟨0, ⟨Nat.zero_le _, rfl, rfl⟩, ?_, Tch.refl _ _, by simp, by simp⟩
    have e : seenF ((ws.take 0).map (·.1)) = fun _ => none := by funext i; simp [seenF]
    rw [e]; exact HMP.out
  case round =>
    obtain ⟨j, ⟨hj, rfl, rfl⟩, hmp, ht, hin, hnd⟩ := hrel
    have MP := Lib.hid hmp
    have TR := Lib.hid ht
    have HIN := Lib.hid hin
    have HND := Lib.hid hnd
    have tw : Tch [] w wr := tch_own T1.out ht (by have := HBM.out; simp; omega)
    have TW := Lib.hid tw
    have h1 := H.out.touch tw (by simp) (by simp) (by simp) (by simp) (by simp)
    have c2 := h1.cell 2 rfl
    have c1 := h1.cell 1 rfl
    clear hmp ht hin hnd
    by_cases hjm : j < m
    · obtain ⟨q, hq⟩ : ∃ q, ws[j]? = some q := ⟨_, List.getElem?_eq_getElem (by rw [HM.out]; exact hjm)⟩
      obtain ⟨ib, ic, ie, ifr, rfl, hib, _⟩ := HII.out j _ hq
      have IR := Lib.hid (HII.out.later tw)
      have HQ := Lib.hid hq
      have hmem : q.1 ∈ ws.map (·.1) := List.mem_map_of_mem (List.mem_of_getElem? hq)
      have htk : (ws.take (j + 1)).map (·.1) = (ws.take j).map (·.1) ++ [q.1] := by rw [List.take_add_one, hq, List.map_append]; rfl
      have hd : ws.map (·.1) = (ws.take j).map (·.1) ++ (q.1 :: (ws.drop (j + 1)).map (·.1)) := by
        have h2 : ws = ws.take j ++ (q :: ws.drop (j + 1)) := by
          conv => lhs; rw [← List.take_append_drop j ws]
          congr 1
          have hjl : j < ws.length := by rw [HM.out]; exact hjm
          rw [List.drop_eq_getElem_cons hjl]
          congr 1
          exact Option.some.inj ((List.getElem?_eq_getElem hjl).symm.trans hq)
        conv => lhs; rw [h2]
        simp
      have HTK := Lib.hid htk
      have HD := Lib.hid hd
      have HMEM := Lib.hid hmem
      obtain ⟨w5, hw5⟩ : ∃ w5, wr.alloc (.cells (imageA q.1 q.2) 84) = w5 := ⟨_, rfl⟩
      have t5 : Tch [] wr w5 := by rw [← hw5]; exact (Tch.refl _ _).alloc _
      have b5 : w5.heap[wr.heap.size]? = some (.cells (imageA q.1 q.2) 84) := by rw [← hw5]; exact heap_alloc_new _ _
      have c5 := cell_img0 b5
      have h5 := h1.touch t5 (by simp) (by simp) (by simp) (by simp) (by simp)
      have c25 := h5.cell 2 rfl
      have MP5 : Hid (∀ w', (∃ n, w' = World.drewN w5 n) → MapAt kInt w' Bm (seenF ((ws.take j).map (·.1)))) := fun w' ⟨n, hn⟩ => by subst hn; exact (MP.out.touch t5 (by simp)).touch (tch_drewN w5 n) (by simp)
      have T5 := Lib.hid t5
      have HW5 := Lib.hid hw5
      clear hq hib hmem htk hd hw5 t5 b5 h1 h5 tw c2
      have bad : ∀ (hb : ¬ ((∀ q ∈ ws, 0 ≤ q.1 ∧ q.1 < S.pages) ∧ (ws.map (·.1)).Nodup)), S.may ws = 2 := fun hb => by unfold LogS.may; rw [if_neg hb]
      have hqm : q ∈ ws := List.mem_of_getElem? HQ.out
      by_cases h0 : q.1 < 0
      · have E2 := Lib.hid (bad (fun hb => by have := (hb.1 q hqm).1; omega))
        have HL : Hid (True = True) := rfl
        clear bad hqm
        go_upto_region 5 with (first | ((with_reducible apply wc_load_img imgT IR.out HQ.out); exact rfl; go_frame) | ((with_reducible refine wc_alloc_img imgZero ?_); go_frame) | ((with_reducible apply wc_store_img_new imgT); (first | exact rfl | (simp only [World.size_alloc]; exact rfl)); exact rfl; go_frame))
        rw [HW5.out]
        (refine wp_region_walk (C := fun w' => ∃ n, w' = World.drewN w5 n) 19 (by kernel_rfl) (by kernel_rfl) ⟨1, rfl⟩ ?_; simp only [List.take_succ_cons, List.take_zero, List.drop_succ_cons, List.drop_zero]; (repeat (first | ((with_reducible refine wq_lookup1 keyI uMapInt intZero MP5.out ?_ ?_ (kk := q.1) ?_ ?_); exact rfl; exact rfl; exact rfl; simp only [HL.out]; go_frame) | go_big_quiet_step (fail))); refine wpQuiet_nil ?_; intro _ hw'; obtain ⟨nq, hw''⟩ := hw'; subst hw'')
        go_wp2_with fail
        go_ret
        rw [E2.out]
        exact ⟨rfl, TW.out.trans (T5.out.trans (tch_drewN w5 nq))⟩
      by_cases hp : (S.pages : Int) ≤ q.1
      · have E2 := Lib.hid (bad (fun hb => by have := (hb.1 q hqm).2; omega))
        have HL : Hid (True = True) := rfl
        clear bad hqm
        go_upto_region 5 with (first | ((with_reducible apply wc_load_img imgT IR.out HQ.out); exact rfl; go_frame) | ((with_reducible refine wc_alloc_img imgZero ?_); go_frame) | ((with_reducible apply wc_store_img_new imgT); (first | exact rfl | (simp only [World.size_alloc]; exact rfl)); exact rfl; go_frame))
        rw [HW5.out]
        (refine wp_region_walk (C := fun w' => ∃ n, w' = World.drewN w5 n) 19 (by kernel_rfl) (by kernel_rfl) ⟨1, rfl⟩ ?_; simp only [List.take_succ_cons, List.take_zero, List.drop_succ_cons, List.drop_zero]; (repeat (first | ((with_reducible refine wq_lookup1 keyI uMapInt intZero MP5.out ?_ ?_ (kk := q.1) ?_ ?_); exact rfl; exact rfl; exact rfl; simp only [HL.out]; go_frame) | go_big_quiet_step (fail))); refine wpQuiet_nil ?_; intro _ hw'; obtain ⟨nq, hw''⟩ := hw'; subst hw'')
        go_wp2_with fail
        go_ret
        rw [E2.out]
        exact ⟨rfl, TW.out.trans (T5.out.trans (tch_drewN w5 nq))⟩
      by_cases hmm : q.1 ∈ (ws.take j).map (·.1)
      · have E2 := Lib.hid (bad (fun hb => by
          have hn2 := hb.2
          rw [HD.out] at hn2
          exact (List.nodup_append.1 hn2).2.2 _ hmm _ (by simp) rfl))
        have HL : Hid (∀ z, (seenF ((ws.take j).map (·.1)) q.1).getD z = .int .i64 1) := fun z => by unfold seenF; rw [if_pos hmm]; rfl
        clear bad hqm hmm
        go_upto_region 5 with (first | ((with_reducible apply wc_load_img imgT IR.out HQ.out); exact rfl; go_frame) | ((with_reducible refine wc_alloc_img imgZero ?_); go_frame) | ((with_reducible apply wc_store_img_new imgT); (first | exact rfl | (simp only [World.size_alloc]; exact rfl)); exact rfl; go_frame))
        rw [HW5.out]
        (refine wp_region_walk (C := fun w' => ∃ n, w' = World.drewN w5 n) 19 (by kernel_rfl) (by kernel_rfl) ⟨1, rfl⟩ ?_; simp only [List.take_succ_cons, List.take_zero, List.drop_succ_cons, List.drop_zero]; (repeat (first | ((with_reducible refine wq_lookup1 keyI uMapInt intZero MP5.out ?_ ?_ (kk := q.1) ?_ ?_); exact rfl; exact rfl; exact rfl; simp only [HL.out]; go_frame) | go_big_quiet_step (fail))); refine wpQuiet_nil ?_; intro _ hw'; obtain ⟨nq, hw''⟩ := hw'; subst hw'')
        go_wp2_with fail
        go_ret
        rw [E2.out]
        exact ⟨rfl, TW.out.trans (T5.out.trans (tch_drewN w5 nq))⟩
      · have HL : Hid (∀ z, (seenF ((ws.take j).map (·.1)) q.1).getD z = z) := fun z => by unfold seenF; rw [if_neg hmm]; rfl
        have HMM := Lib.hid hmm
        clear bad hmm
        go_upto_region 5 with (first | ((with_reducible apply wc_load_img imgT IR.out HQ.out); exact rfl; go_frame) | ((with_reducible refine wc_alloc_img imgZero ?_); go_frame) | ((with_reducible apply wc_store_img_new imgT); (first | exact rfl | (simp only [World.size_alloc]; exact rfl)); exact rfl; go_frame))
        rw [HW5.out]
        (refine wp_region_walk (C := fun w' => ∃ n, w' = World.drewN w5 n) 19 (by kernel_rfl) (by kernel_rfl) ⟨1, rfl⟩ ?_; simp only [List.take_succ_cons, List.take_zero, List.drop_succ_cons, List.drop_zero]; (repeat (first | ((with_reducible refine wq_lookup1 keyI uMapInt intZero MP5.out ?_ ?_ (kk := q.1) ?_ ?_); exact rfl; exact rfl; exact rfl; simp only [HL.out]; go_frame) | go_big_quiet_step (fail))); refine wpQuiet_nil ?_; intro _ hw'; obtain ⟨nq, hw''⟩ := hw'; subst hw'')
        have T6 := Lib.hid (T5.out.trans (tch_drewN w5 nq))
        have MP6 := Lib.hid (MP5.out _ ⟨nq, rfl⟩)
        have c56 := cell_old (tch_drewN w5 nq) c5
        clear T5 MP5 c5 c25 HW5
        generalize w5.drewN nq = w6 at *
        go_wp2_with (first | ((with_reducible refine wc_lookup1 keyI uMapInt (intZero _) MP6.out (kk := q.1) ?_ ?_ ?_); exact rfl; exact rfl; simp only [HL.out]; go_frame) | ((with_reducible refine wc_mapUpdate keyI uMapInt MP6.out (kk := q.1) (v := .int .i64 1) ?_ ?_ ?_ (fun w7 t7 h7 => ?_)); exact rfl; exact rfl; exact rfl; rw [seenF_push] at h7; have T7 := Lib.hid t7; have H7 := Lib.hid h7; clear t7 h7; go_frame))
        go_roundg (m - (j + 1))
        case measure => omega
        case rel =>
          refine ⟨j + 1, ⟨by omega, by go_num, rfl⟩, by rw [HTK.out]; exact H7.out, TR.out.trans ((T6.out.mono (by simp)).trans T7.out), ?_, ?_⟩
          · rw [HTK.out]
            intro x hx
            rcases List.mem_append.1 hx with hx | hx
            · exact HIN.out x hx
            · rw [List.mem_singleton.1 hx]; omega
          · rw [HTK.out]
            refine List.nodup_append.2 ⟨HND.out, by simp, ?_⟩
            rintro a ha b hb rfl
            rw [List.mem_singleton] at hb
            exact HMM.out (hb ▸ ha)
    · have hfull : ws.take j = ws := List.take_of_length_le (by rw [HM.out]; omega)
      rw [hfull] at HIN HND
      have hjm' : j = m := by omega
      subst hjm'
      have hgood : (∀ q ∈ ws, 0 ≤ q.1 ∧ q.1 < S.pages) ∧ (ws.map (·.1)).Nodup := ⟨fun q hq => HIN.out q.1 (List.mem_map_of_mem hq), HND.out⟩
      have e : S.may ws = if 120 < j ∨ S.log < j + 2 then 82 else 0 := by unfold LogS.may; rw [if_pos hgood, HM.out]
      have E := Lib.hid e
      clear hfull hgood e
      by_cases h1 : 120 < j
      · have E2 : Hid (S.may ws = 82) := by show _ = _; rw [E.out, if_pos (.inl h1)]
        go_wp2_with fail
        go_ret
        rw [E2.out]
        exact ⟨rfl, TW.out⟩
      by_cases h2 : S.log < j + 2
      · have E2 : Hid (S.may ws = 82) := by show _ = _; rw [E.out, if_pos (.inr h2)]
        have h2' : (S.log : Int) - 2 < j := by omega
        go_wp2_with fail
        go_ret
        rw [E2.out]
        exact ⟨rfl, TW.out⟩
      · have E2 : Hid (S.may ws = 0) := by show _ = _; rw [E.out, if_neg (by omega)]
        have h2' : ¬ (S.log : Int) - 2 < j := by omega
        go_wp2_with fail
        go_ret
        rw [E2.out]
        exact ⟨rfl, TW.out⟩
end Go.Proofs.YtkjgbhpnlgcinaaGreatDoor
/-
  Pages are written, all or none: package wal's Commit.
-/
namespace Go.Cib
open Go Go.RowKit
namespace DiskS
theorem length_goes (D : DiskS) : D.goes.lasts.length = D.lasts.length := by unfold goes; split <;> rfl
theorem length_act (D : DiskS) (x : DAct) : (D.act x).2.lasts.length = D.lasts.length := by
  cases x with
  | write i s =>
    show (D.write i s).2.lasts.length = _
    unfold write
    split
    · rw [length_goes]; rfl
    · rfl
  | flush =>
    show D.flush.2.lasts.length = _
    unfold flush
    split
    · rfl
    · split
      · rw [length_goes]; rfl
      · show (lay _ _).length = _
        rw [length_lay, length_goes]; rfl
theorem length_acts (D : DiskS) (xs : List DAct) : (D.acts xs).2.lasts.length = D.lasts.length := by
  induction xs generalizing D with
  | nil => rfl
  | cons x xs ih =>
    rw [acts_cons]
    split
    · rw [ih, length_act]
    · exact length_act D x
end DiskS
namespace LogS
theorem Ok.disk {S : LogS} (h : S.Ok) {D : DiskS} (hD : D.lasts.length = S.disk.lasts.length) : ({ S with disk := D } : LogS).Ok :=
  ⟨h.log3, h.log4, h.pages1, h.pages2, by rw [hD]; exact h.size, h.used, h.records, h.gen, h.over⟩
theorem Ok.dead {S : LogS} (h : S.Ok) (b : Bool) : ({ S with dead := b } : LogS).Ok := ⟨h.log3, h.log4, h.pages1, h.pages2, h.size, h.used, h.records, h.gen, h.over⟩
theorem Ok.raise {S : LogS} (h : S.Ok) : S.raise.2.Ok :=
  ⟨h.log3, h.log4, h.pages1, h.pages2, by show _ = (S.disk.acts _).2.lasts.length; rw [DiskS.length_acts]; exact h.size, h.used, h.records, Nat.mod_lt _ (by decide), h.over⟩
theorem Ok.cleared {S : LogS} (h : S.Ok) : S.cleared.Ok := ⟨h.log3, h.log4, h.pages1, h.pages2, h.size, Nat.zero_le _, Nat.zero_le _, h.gen, by intro i x hx; cases hx⟩
theorem Ok.checkpoint {S : LogS} (h : S.Ok) : S.checkpoint.2.Ok := by
  unfold LogS.checkpoint
  repeat' split
  · exact h
  · exact h
  · exact (h.disk (DiskS.length_acts _ _)).dead _
  · exact ((h.disk (DiskS.length_acts _ _)).raise.disk rfl).dead _
  · exact (h.disk (DiskS.length_acts _ _)).raise.cleared
theorem checkpoint_log (S : LogS) : S.checkpoint.2.log = S.log ∧ S.checkpoint.2.pages = S.pages := by
  unfold LogS.checkpoint
  repeat' split
  all_goals exact ⟨rfl, rfl⟩
theorem checkpoint_used {S : LogS} (h : S.checkpoint.1 = 0) : S.checkpoint.2.used = 0 := by
  unfold LogS.checkpoint at h ⊢
  split at h
  · cases h
  · split at h
    · rename_i h1 h2; rw [if_neg h1, if_pos h2]; exact h2
    · rename_i h1 h2
      rw [if_neg h1, if_neg h2]
      split at h
      · rename_i h3; exact absurd h h3
      · rename_i h3
        rw [if_neg h3]
        split at h
        · rename_i h4; exact absurd h h4
        · rename_i h4; rw [if_neg h4]; rfl
theorem nats_cast {S : LogS} {w : List (Int × Page)} (h : S.may w = 0) : (nats w).map (fun q => ((q.1 : Int), q.2)) = w ∧ (∀ q ∈ nats w, q.1 < S.pages) ∧ w.length ≤ 120 ∧ w.length + 2 ≤ S.log ∧ ((nats w).map (·.1)).Nodup := by
  unfold LogS.may at h
  split at h
  · rename_i hg
    split at h
    · cases h
    · rename_i hb
      have hpos : ∀ q ∈ w, ((q.1.toNat : Nat) : Int) = q.1 := fun q hq => by have := (hg.1 q hq).1; omega
      refine ⟨?_, ?_, by omega, by omega, ?_⟩
      · unfold nats
        rw [List.map_map]
        conv => rhs; rw [← List.map_id w]
        refine List.map_congr_left fun q hq => ?_
        exact Prod.ext (hpos q hq) rfl
      · intro q hq
        obtain ⟨r, hr, rfl⟩ := List.mem_map.1 hq
        have := hg.1 r hr
        show r.1.toNat < _
        omega
      · have h2 := hg.2
        unfold nats
        rw [List.map_map]
        have e : w.map (fun q => q.1) = (w.map (fun q => q.1.toNat)).map (fun n : Nat => (n : Int)) := by
          rw [List.map_map]
          exact List.map_congr_left fun q hq => (hpos q hq).symm
        rw [e] at h2
        exact List.Pairwise.of_map _ (fun a b h e => h (by rw [e])) h2
  · cases h
end LogS
end Go.Cib
namespace Go.Proofs.YtkjgbhpnlgcinaaGreatDoor
open Go.RowKit Go.Cib
set_option maxRecDepth 20000 in
set_option maxHeartbeats 2000000 in
theorem commit_any {w : World} {g d L M V : Nat} {S : LogS} (h : LogAt w g d L M V S) (ok : S.Ok) {ia : Option Addr} {icap : Nat} {ws : List (Int × Page)} (hI : ImgsAt w ia ws) (hn : ws.length ≤ 100000) (hib : ∀ b, ia = some ⟨b, 0, none⟩ → b ∉ [g, d, L, M, V]) :
    Calls Tryz.prog 41 #[.pointer (some ⟨g, 0, none⟩), .slice ia ws.length icap] w fun e w' =>
      e = .returned (.int .i64 (S.commit ws).1) ∧ LogAt w' g d L M V (S.commit ws).2 ∧ Tch [g, d, L, M, V] w w' := by
  have CM := Lib.hid (logMay_any (icap := icap) h hI hn ok.log3 ok.log4)
  obtain ⟨m, hm⟩ : ∃ m, ws.length = m := ⟨_, rfl⟩
  rw [hm] at hn CM ⊢
  have H := Lib.hid h
  have HII := Lib.hid hI
  have HM := Lib.hid hm
  have OKK := Lib.hid ok
  have HIB := Lib.hid hib
  clear h hI hm ok hib
  obtain ⟨em, hem⟩ : ∃ em, S.may ws = em := ⟨_, rfl⟩
  rw [hem] at CM
  by_cases hz : em = 0
  · subst hz
    by_cases h0 : m = 0
    · subst h0
      have e : S.commit ws = (0, S) := by unfold LogS.commit; rw [if_neg (by simp [hem]), if_pos (List.eq_nil_of_length_eq_zero HM.out)]
      have E := Lib.hid e
      clear e hem
      go_enter Tryz.func41, Tryz.ntmps41
      go_wp2_with (go_at_call 85; refine CM.out.mono ?_; rintro e w1 ⟨rfl, q1⟩; have T1 := Lib.hid q1; clear q1)
      go_ret
      rw [E.out]
      exact ⟨rfl, H.out.touch T1.out (by simp) (by simp) (by simp) (by simp) (by simp), T1.out.mono (by simp)⟩
    have h0' : ((m : Int) == 0) = false := by simp; omega
    cases hd : S.dead with
    | true =>
      have e : S.commit ws = (6, S) := by unfold LogS.commit; rw [if_neg (by simp [hem]), if_neg (fun e => h0 (by rw [← HM.out, e]; rfl)), if_pos hd]
      have E := Lib.hid e
      clear e hem
      go_enter Tryz.func41, Tryz.ntmps41
      go_wp2_with (go_at_call 85; refine CM.out.mono ?_; rintro e w1 ⟨rfl, q1⟩; have T1 := Lib.hid q1; have c7 := (H.out.touch q1 (by simp) (by simp) (by simp) (by simp) (by simp)).cell 7 rfl; rw [hd] at c7; clear q1)
      go_ret
      rw [E.out]
      exact ⟨rfl, H.out.touch T1.out (by simp) (by simp) (by simp) (by simp) (by simp), T1.out.mono (by simp)⟩
    | false =>
      obtain ⟨k1, k2, k3, k4, k5⟩ := LogS.nats_cast hem
      rw [HM.out] at k3 k4
      have e : S.commit ws = if S.log < S.used + m + 2 then (if S.checkpoint.1 ≠ 0 then S.checkpoint else S.checkpoint.2.write (LogS.nats ws)) else S.write (LogS.nats ws) := by
        unfold LogS.commit; rw [if_neg (by simp [hem]), if_neg (fun e => h0 (by rw [← HM.out, e]; rfl)), if_neg (by simp [hd]), HM.out]
      have E := Lib.hid e
      have hnl : (LogS.nats ws).length = m := by unfold LogS.nats; rw [List.length_map, HM.out]
      have hus := OKK.out.used
      have hl4 := OKK.out.log4
      -- what is done behind a checkpoint, or at once
      have TAIL : Hid (∀ (w1 : World) (S1 : LogS), LogAt w1 g d L M V S1 → S1.Ok → S1.pages = S.pages → S1.log = S.log → S1.used + m + 2 ≤ S1.log → Tch [g, d, L, M, V] w w1 →
          Calls Tryz.prog 86 #[.pointer (some ⟨g, 0, none⟩), .slice ia m icap] w1 fun e w' =>
            e = .returned (.int .i64 (S1.disk.acts (S1.writeAs (LogS.nats ws))).1) ∧ LogAt w' g d L M V { S1 with disk := (S1.disk.acts (S1.writeAs (LogS.nats ws))).2 } ∧ Tch [g, d, L, M, V] w w' ∧ ImgsAt w' ia ((LogS.nats ws).map fun q => ((q.1 : Int), q.2))) := by
        intro w1 S1 h1 ok1 hpg hlg hu1 t1
        have hI1 : ImgsAt w1 ia ((LogS.nats ws).map fun q => ((q.1 : Int), q.2)) := by rw [k1]; exact HII.out.touch t1 HIB.out
        have := write8_any (icap := icap) h1 ok1 hI1 (fun q hq => by have := k2 q hq; have := OKK.out.pages2; omega) (by rw [hnl]; omega)
        rw [hnl] at this
        refine this.mono ?_
        rintro e w' ⟨q1, q2, q3⟩
        exact ⟨q1, q2, t1.trans (q3.mono (by simp +contextual)), hI1.touch q3 (fun b hb hx => HIB.out b hb (by simp at hx ⊢; omega))⟩
      have TOOK : Hid (∀ (w1 : World) (S1 : LogS), LogAt w1 g d L M V S1 → S1.Ok → ImgsAt w1 ia ((LogS.nats ws).map fun q => ((q.1 : Int), q.2)) → Tch [g, d, L, M, V] w w1 →
          Calls Tryz.prog 88 #[.pointer (some ⟨g, 0, none⟩), .slice ia m icap] w1 fun e w' => e = .returned (.tuple #[]) ∧ LogAt w' g d L M V (S1.took (LogS.nats ws)) ∧ Tch [g, d, L, M, V] w w') := by
        intro w1 S1 h1 ok1 hI1 t1
        have := took_any (icap := icap) h1 hI1 (by rw [hnl]; omega) (by have := ok1.used; have := ok1.log4; omega) (by have := ok1.records; have := ok1.used; have := ok1.log4; omega)
        rw [hnl] at this
        refine this.mono ?_
        rintro e w' ⟨q1, q2, q3⟩
        exact ⟨q1, q2, t1.trans (q3.mono (by simp))⟩
      clear e k1 k2 k5 hem
      by_cases hc : S.log < S.used + m + 2
      · rw [if_pos hc] at E
        have hc' : (S.log : Int) - S.used < m + 2 := by omega
        have hcw : wrap64 ((S.log : Int) - S.used) = S.log - S.used := by unfold wrap64; omega
        have CK : Hid (∀ w1, Tch [] w w1 → Calls Tryz.prog 78 #[.pointer (some ⟨g, 0, none⟩)] w1 fun e w' => e = .returned (.int .i64 S.checkpoint.1) ∧ LogAt w' g d L M V S.checkpoint.2 ∧ Tch [g, d, L, M, V] w w') := fun w1 t1 =>
          (checkpoint_any (H.out.touch t1 (by simp) (by simp) (by simp) (by simp) (by simp)) OKK.out).mono (by rintro e w' ⟨q1, q2, q3⟩; exact ⟨q1, q2, (t1.mono (by simp)).trans q3⟩)
        go_enter Tryz.func41, Tryz.ntmps41
        go_upto_region 8 with (go_at_call 85; refine CM.out.mono ?_; rintro e w1 ⟨rfl, q1⟩; have T1 := Lib.hid q1; have h1 := H.out.touch q1 (by simp) (by simp) (by simp) (by simp) (by simp); have c7 := h1.cell 7 rfl; rw [hd] at c7; have c1 := h1.cell 1 rfl; have c4 := h1.cell 4 rfl; clear q1 h1)
        (refine wp_region_walk (C := fun w' => ∃ n, w' = World.drewN w1 n) 13 (by kernel_rfl) (by kernel_rfl) ⟨1, rfl⟩ ?_; simp only [List.take_succ_cons, List.take_zero, List.drop_succ_cons, List.drop_zero]; (repeat (first | fail | go_big_quiet_step (fail))); refine wpQuiet_nil ?_; intro _ hw'; obtain ⟨nq, hw''⟩ := hw'; subst hw'')
        have T2 := Lib.hid (T1.out.trans (tch_drewN w1 nq))
        clear c1 c4 c7
        generalize w1.drewN nq = w2 at *
        obtain ⟨ec, hec⟩ : ∃ ec, S.checkpoint.1 = ec := ⟨_, rfl⟩
        rw [hec] at CK
        by_cases hcz : ec = 0
        · subst hcz
          have okc := OKK.out.checkpoint
          obtain ⟨kl, kp⟩ := LogS.checkpoint_log S
          have ku := LogS.checkpoint_used hec
          rw [hec, if_neg (by simp)] at E
          obtain ⟨S1, hS1⟩ : ∃ S1, S.checkpoint.2 = S1 := ⟨_, rfl⟩
          rw [hS1] at E CK okc kl kp ku
          have OK1 := Lib.hid okc
          have KK := Lib.hid (And.intro kp (And.intro kl (show S1.used + m + 2 ≤ S1.log by omega)))
          clear hS1 okc kl kp ku hec
          obtain ⟨ew, hew⟩ : ∃ ew, (S1.disk.acts (S1.writeAs (LogS.nats ws))).1 = ew := ⟨_, rfl⟩
          obtain ⟨D9, hD9⟩ : ∃ D9, (S1.disk.acts (S1.writeAs (LogS.nats ws))).2 = D9 := ⟨_, rfl⟩
          have WR : Hid (∀ w1, LogAt w1 g d L M V S1 → Tch [g, d, L, M, V] w w1 → Calls Tryz.prog 86 #[.pointer (some ⟨g, 0, none⟩), .slice ia m icap] w1 fun e w' =>
              e = .returned (.int .i64 ew) ∧ LogAt w' g d L M V { S1 with disk := D9 } ∧ Tch [g, d, L, M, V] w w' ∧ ImgsAt w' ia ((LogS.nats ws).map fun q => ((q.1 : Int), q.2))) := fun w1 h1 t1 => by rw [← hew, ← hD9]; exact TAIL.out w1 S1 h1 OK1.out KK.out.1 KK.out.2.1 KK.out.2.2 t1
          have OK9 : Hid (({ S1 with disk := D9 } : LogS).Ok) := by rw [← hD9]; exact OK1.out.disk (DiskS.length_acts _ _)
          have hlen9 := k3
          by_cases hwz : ew = 0
          · have hw0 : (S1.disk.acts (S1.writeAs (LogS.nats ws))).1 = 0 := by rw [hew]; exact hwz
            have e9 : S1.write (LogS.nats ws) = (0, ({ S1 with disk := D9 } : LogS).took (LogS.nats ws)) := by unfold LogS.write; rw [if_neg (by rw [hew]; simp [hwz]), hD9]
            rw [e9] at E
            subst hwz
            clear e9 hw0 hew hD9
            go_wp2_with (first | (go_at_call 78; refine (CK.out _ T2.out).mono ?_; rintro e w3 ⟨rfl, q1, q2⟩; have Q1 := Lib.hid q1; have Q2 := Lib.hid q2; clear q1 q2) | (go_at_call 86; refine (WR.out _ Q1.out Q2.out).mono ?_; rintro e w4 ⟨rfl, r1, r2, r3⟩; have R1 := Lib.hid r1; have R2 := Lib.hid r2; have R3 := Lib.hid r3; clear r1 r2 r3) | (go_at_call 88; refine (TOOK.out _ _ R1.out OK9.out R3.out R2.out).mono ?_; rintro e w5 ⟨rfl, r1, r2⟩; have Z1 := Lib.hid r1; have Z2 := Lib.hid r2; clear r1 r2))
            go_ret
            rw [E.out]
            exact ⟨rfl, Z1.out, Z2.out⟩
          · have hw1 : (ew != 0) = true := by simp [hwz]
            have e9 : S1.write (LogS.nats ws) = (ew, { S1 with disk := D9, dead := S1.dead || ew == 6 }) := by
              unfold LogS.write; rw [if_pos (by rw [hew]; exact hwz), hew]; unfold LogS.told; rw [hew, hD9]
            rw [e9] at E
            clear e9 hew hD9
            go_wp2_with (first | (go_at_call 78; refine (CK.out _ T2.out).mono ?_; rintro e w3 ⟨rfl, q1, q2⟩; have Q1 := Lib.hid q1; have Q2 := Lib.hid q2; clear q1 q2) | (go_at_call 86; refine (WR.out _ Q1.out Q2.out).mono ?_; rintro e w4 ⟨rfl, r1, r2, r3⟩; have R1 := Lib.hid r1; have R2 := Lib.hid r2; clear r1 r2 r3) | (go_at_call 87; refine (told_any R1.out ew).mono ?_; rintro e w5 ⟨rfl, r1, r2⟩; have Z1 := Lib.hid r1; have Z2 := Lib.hid (R2.out.trans (r2.mono (by simp))); clear r1 r2))
            go_ret
            rw [E.out]
            exact ⟨rfl, Z1.out, Z2.out⟩
        · have hcz' : (ec != 0) = true := by simp [hcz]
          rw [hec, if_pos hcz] at E
          have hec2 := Lib.hid hec
          clear hec
          go_wp2_with (go_at_call 78; refine (CK.out _ T2.out).mono ?_; rintro e w3 ⟨rfl, q1, q2⟩; have Q1 := Lib.hid q1; have Q2 := Lib.hid q2; clear q1 q2)
          go_ret
          rw [E.out]
          have e2 : S.checkpoint = (ec, S.checkpoint.2) := Prod.ext hec2.out rfl
          rw [e2]
          exact ⟨rfl, Q1.out, Q2.out⟩
      · rw [if_neg hc] at E
        have hc' : ¬ (S.log : Int) - S.used < m + 2 := by omega
        have hcw : wrap64 ((S.log : Int) - S.used) = S.log - S.used := by unfold wrap64; omega
        go_enter Tryz.func41, Tryz.ntmps41
        go_upto_region 8 with (go_at_call 85; refine CM.out.mono ?_; rintro e w1 ⟨rfl, q1⟩; have T1 := Lib.hid q1; have h1 := H.out.touch q1 (by simp) (by simp) (by simp) (by simp) (by simp); have c7 := h1.cell 7 rfl; rw [hd] at c7; have c1 := h1.cell 1 rfl; have c4 := h1.cell 4 rfl; clear q1 h1)
        (refine wp_region_walk (C := fun w' => ∃ n, w' = World.drewN w1 n) 13 (by kernel_rfl) (by kernel_rfl) ⟨1, rfl⟩ ?_; simp only [List.take_succ_cons, List.take_zero, List.drop_succ_cons, List.drop_zero]; (repeat (first | fail | go_big_quiet_step (fail))); refine wpQuiet_nil ?_; intro _ hw'; obtain ⟨nq, hw''⟩ := hw'; subst hw'')
        have T2 := Lib.hid (T1.out.trans (tch_drewN w1 nq))
        have H2 := Lib.hid (H.out.touch T2.out (by simp) (by simp) (by simp) (by simp) (by simp))
        clear c1 c4 c7
        generalize w1.drewN nq = w2 at *
        obtain ⟨ew, hew⟩ : ∃ ew, (S.disk.acts (S.writeAs (LogS.nats ws))).1 = ew := ⟨_, rfl⟩
        obtain ⟨D9, hD9⟩ : ∃ D9, (S.disk.acts (S.writeAs (LogS.nats ws))).2 = D9 := ⟨_, rfl⟩
        have WR : Hid (∀ w1, LogAt w1 g d L M V S → Tch [g, d, L, M, V] w w1 → Calls Tryz.prog 86 #[.pointer (some ⟨g, 0, none⟩), .slice ia m icap] w1 fun e w' =>
            e = .returned (.int .i64 ew) ∧ LogAt w' g d L M V { S with disk := D9 } ∧ Tch [g, d, L, M, V] w w' ∧ ImgsAt w' ia ((LogS.nats ws).map fun q => ((q.1 : Int), q.2))) := fun w1 h1 t1 => by rw [← hew, ← hD9]; exact TAIL.out w1 S h1 OKK.out rfl rfl (by omega) t1
        have OK9 : Hid (({ S with disk := D9 } : LogS).Ok) := by rw [← hD9]; exact OKK.out.disk (DiskS.length_acts _ _)
        have hlen9 := k3
        by_cases hwz : ew = 0
        · have hw0 : (S.disk.acts (S.writeAs (LogS.nats ws))).1 = 0 := by rw [hew]; exact hwz
          have e9 : S.write (LogS.nats ws) = (0, ({ S with disk := D9 } : LogS).took (LogS.nats ws)) := by unfold LogS.write; rw [if_neg (by rw [hew]; simp [hwz]), hD9]
          rw [e9] at E
          subst hwz
          clear e9 hw0 hew hD9
          go_wp2_with (first | (go_at_call 86; refine (WR.out _ H2.out (T2.out.mono (by simp))).mono ?_; rintro e w4 ⟨rfl, r1, r2, r3⟩; have R1 := Lib.hid r1; have R2 := Lib.hid r2; have R3 := Lib.hid r3; clear r1 r2 r3) | (go_at_call 88; refine (TOOK.out _ _ R1.out OK9.out R3.out R2.out).mono ?_; rintro e w5 ⟨rfl, r1, r2⟩; have Z1 := Lib.hid r1; have Z2 := Lib.hid r2; clear r1 r2))
          go_ret
          rw [E.out]
          exact ⟨rfl, Z1.out, Z2.out⟩
        · have hw1 : (ew != 0) = true := by simp [hwz]
          have e9 : S.write (LogS.nats ws) = (ew, { S with disk := D9, dead := S.dead || ew == 6 }) := by
            unfold LogS.write; rw [if_pos (by rw [hew]; exact hwz), hew]; unfold LogS.told; rw [hew, hD9]
          rw [e9] at E
          clear e9 hew hD9
          go_wp2_with (first | (go_at_call 86; refine (WR.out _ H2.out (T2.out.mono (by simp))).mono ?_; rintro e w4 ⟨rfl, r1, r2, r3⟩; have R1 := Lib.hid r1; have R2 := Lib.hid r2; clear r1 r2 r3) | (go_at_call 87; refine (told_any R1.out ew).mono ?_; rintro e w5 ⟨rfl, r1, r2⟩; have Z1 := Lib.hid r1; have Z2 := Lib.hid (R2.out.trans (r2.mono (by simp))); clear r1 r2))
          go_ret
          rw [E.out]
          exact ⟨rfl, Z1.out, Z2.out⟩
  · have hz' : (em != 0) = true := by simp [hz]
    have e : S.commit ws = (em, S) := by unfold LogS.commit; rw [if_pos (by rw [hem]; exact hz), hem]
    have E := Lib.hid e
    clear e hem
    go_enter Tryz.func41, Tryz.ntmps41
    go_wp2_with (go_at_call 85; refine CM.out.mono ?_; rintro e w1 ⟨rfl, q1⟩; have T1 := Lib.hid q1; clear q1)
    go_ret
    rw [E.out]
    exact ⟨rfl, H.out.touch T1.out (by simp) (by simp) (by simp) (by simp) (by simp), T1.out.mono (by simp)⟩
end Go.Proofs.YtkjgbhpnlgcinaaGreatDoor
