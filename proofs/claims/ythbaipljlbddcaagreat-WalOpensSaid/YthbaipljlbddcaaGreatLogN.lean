/-
  Why images can't be written: package wal's may.
-/
import Derived.Test.YthbaipljlbddcaaGreatLogL
namespace Go.Cib
open Go Go.RowKit
theorem wc_lookup1 {P : Program} {ops : Array Oper} {rest : List Oper} {a : Act} {w : World} {Q : Exit → Act → World → Prop} {dst : Option Tmp} {ty : TypeId} {pos : String} {af : Array Edge} {κ : Type} [DecidableEq κ] {T K E : TypeId} {key : κ → Value} {M : Nat} {f : κ → Option Value} {m k : Operand} (hK : KeyT P K key) (hT : P.underlying T = some (.map K E)) {z : Value} (hz : (zeroValue E).run P w = .ok z w) (hC : MapAt key w M f)
    {kk : κ} (hm : a.eval m = .map (some M)) (hk : a.eval k = key kk) (h : wpList P ops Q rest (a.put dst ((f kk).getD z)) w) : wpList P ops Q (⟨dst, .lookup T m k false, ty, pos, af, none⟩ :: rest) a w :=
  wc_value rfl (exec_lookup1 rfl hK hT hz hm hk hC) h
end Go.Cib
namespace Go.Proofs.YthbaipljlbddcaaGreat
open Go.RowKit Go.Cib
theorem uMapInt : Tryz.prog.underlying 125 = some (.map 3 3) := by kernel_rfl
theorem intZero (w : World) : (zeroValue 3).run Tryz.prog w = .ok (.int .i64 0) w := by kernel_rfl
/-- The numbers that were seen, each once. -/
def seenF (l : List Int) : Int → Option Value := fun i => if i ∈ l then some (.int .i64 1) else none
theorem seenF_push (l : List Int) (k : Int) : upd (seenF l) k (.int .i64 1) = seenF (l ++ [k]) := by
  funext i
  simp only [upd, seenF, List.mem_append, List.mem_singleton]
  by_cases h : i = k
  · simp [h]
  · simp [h]

set_option maxRecDepth 20000 in
set_option maxHeartbeats 1000000 in
theorem logMay_any {w : World} {g d L M V : Nat} {S : LogS} (h : LogAt w g d L M V S) {ia : Option Addr} {icap : Nat} {ws : List (Int × Page)} (hI : ImgsAt w ia ws) (hn : ws.length ≤ 100000) (hl3 : 3 ≤ S.log) (hl4 : S.log ≤ 4000) :
    Calls Tryz.prog 49 #[.pointer (some ⟨g, 0, none⟩), .slice ia ws.length icap] w fun e w' =>
      e = .returned (.int .i64 (S.may ws)) ∧ Tch [] w w' := by
  obtain ⟨m, hm⟩ : ∃ m, ws.length = m := ⟨_, rfl⟩
  rw [hm] at hn ⊢
  have H := Lib.hid h
  have HII := Lib.hid hI
  have HM := Lib.hid hm
  have hgw := lt_of_heap h.hg
  clear h hI hm
  go_enter Tryz.func49, Tryz.ntmps49
  go_wp2_with ((with_reducible apply wc_makeMap kInt); intro hm; have HMP := Lib.hid hm; clear hm; go_frame)
  obtain ⟨Bm, hBm⟩ : ∃ Bm, w.heap.size = Bm := ⟨_, rfl⟩
  rw [hBm] at HMP ⊢
  have HBM := Lib.hid hBm
  have t1 : Tch [] w (w.alloc (.map #[] 0)) := (Tch.refl _ _).alloc _
  have T1 := Lib.hid t1
  have hs1 : (w.alloc (.map #[] 0)).heap.size = Bm + 1 := by rw [World.size_alloc, hBm]
  clear t1 hBm
  generalize w.alloc (.map #[] 0) = w1 at *
  go_loopg [11] m (fun q i wr => ∃ j, OnAt m i q j ∧ MapAt kInt wr Bm (seenF ((ws.take j).map (·.1))) ∧ Tch [Bm] w1 wr ∧ (∀ x ∈ (ws.take j).map (fun q => q.1), (0 : Int) ≤ x ∧ x < (S.pages : Int)) ∧ ((ws.take j).map (·.1)).Nodup)
  case atStart =>
    refine ⟨0, ⟨Nat.zero_le _, rfl, rfl⟩, ?_, Tch.refl _ _, by simp, by simp⟩
    have e : seenF ((ws.take 0).map (·.1)) = fun _ => none := by funext i; simp [seenF]
    rw [e]; exact HMP.out
  case round =>
    obtain ⟨j, ⟨hj, rfl, rfl⟩, hmp, ht, hin, hnd⟩ := hrel
    have MP := Lib.hid hmp
    have TR := Lib.hid ht
    have HIN := Lib.hid hin
    have HND := Lib.hid hnd
    have tw : Tch [] w wr := tch_own T1.out ht (by have := HBM.out; simp; omega)
    have TW := Lib.hid tw
    have h1 := H.out.touch tw (by simp) (by simp) (by simp) (by simp) (by simp)
    have c2 := h1.cell 2 rfl
    have c1 := h1.cell 1 rfl
    clear hmp ht hin hnd
    by_cases hjm : j < m
    · obtain ⟨q, hq⟩ : ∃ q, ws[j]? = some q := ⟨_, List.getElem?_eq_getElem (by rw [HM.out]; exact hjm)⟩
      obtain ⟨ib, ic, ie, ifr, rfl, hib, _⟩ := HII.out j _ hq
      have IR := Lib.hid (HII.out.later tw)
      have HQ := Lib.hid hq
      have hmem : q.1 ∈ ws.map (·.1) := List.mem_map_of_mem (List.mem_of_getElem? hq)
      have htk : (ws.take (j + 1)).map (·.1) = (ws.take j).map (·.1) ++ [q.1] := by rw [List.take_add_one, hq, List.map_append]; rfl
      have hd : ws.map (·.1) = (ws.take j).map (·.1) ++ (q.1 :: (ws.drop (j + 1)).map (·.1)) := by
        have h2 : ws = ws.take j ++ (q :: ws.drop (j + 1)) := by
          conv => lhs; rw [← List.take_append_drop j ws]
          congr 1
          have hjl : j < ws.length := by rw [HM.out]; exact hjm
          rw [List.drop_eq_getElem_cons hjl]
          congr 1
          exact Option.some.inj ((List.getElem?_eq_getElem hjl).symm.trans hq)
        conv => lhs; rw [h2]
        simp
      have HTK := Lib.hid htk
      have HD := Lib.hid hd
      have HMEM := Lib.hid hmem
      obtain ⟨w5, hw5⟩ : ∃ w5, wr.alloc (.cells (imageA q.1 q.2) 68) = w5 := ⟨_, rfl⟩
      have t5 : Tch [] wr w5 := by rw [← hw5]; exact (Tch.refl _ _).alloc _
      have b5 : w5.heap[wr.heap.size]? = some (.cells (imageA q.1 q.2) 68) := by rw [← hw5]; exact heap_alloc_new _ _
      have c5 := cell_img0 b5
      have h5 := h1.touch t5 (by simp) (by simp) (by simp) (by simp) (by simp)
      have c25 := h5.cell 2 rfl
      have MP5 : Hid (∀ w', (∃ n, w' = World.drewN w5 n) → MapAt kInt w' Bm (seenF ((ws.take j).map (·.1)))) := fun w' ⟨n, hn⟩ => by subst hn; exact (MP.out.touch t5 (by simp)).touch (tch_drewN w5 n) (by simp)
      have T5 := Lib.hid t5
      have HW5 := Lib.hid hw5
      clear hq hib hmem htk hd hw5 t5 b5 h1 h5 tw c2
      have bad : ∀ (hb : ¬ ((∀ q ∈ ws, 0 ≤ q.1 ∧ q.1 < S.pages) ∧ (ws.map (·.1)).Nodup)), S.may ws = 2 := fun hb => by unfold LogS.may; rw [if_neg hb]
      have hqm : q ∈ ws := List.mem_of_getElem? HQ.out
      by_cases h0 : q.1 < 0
      · have E2 := Lib.hid (bad (fun hb => by have := (hb.1 q hqm).1; omega))
        have HL : Hid (True = True) := rfl
        clear bad hqm
        go_upto_region 5 with (first | ((with_reducible apply wc_load_img imgT IR.out HQ.out); exact rfl; go_frame) | ((with_reducible refine wc_alloc_img imgZero ?_); go_frame) | ((with_reducible apply wc_store_img_new imgT); (first | exact rfl | (simp only [World.size_alloc]; exact rfl)); exact rfl; go_frame))
        rw [HW5.out]
        (refine wp_region_walk (C := fun w' => ∃ n, w' = World.drewN w5 n) 19 (by kernel_rfl) (by kernel_rfl) ⟨1, rfl⟩ ?_; simp only [List.take_succ_cons, List.take_zero, List.drop_succ_cons, List.drop_zero]; (repeat (first | ((with_reducible refine wq_lookup1 keyI uMapInt intZero MP5.out ?_ ?_ (kk := q.1) ?_ ?_); exact rfl; exact rfl; exact rfl; simp only [HL.out]; go_frame) | go_big_quiet_step (fail))); refine wpQuiet_nil ?_; intro _ hw'; obtain ⟨nq, hw''⟩ := hw'; subst hw'')
        go_wp2_with fail
        go_ret
        rw [E2.out]
        exact ⟨rfl, TW.out.trans (T5.out.trans (tch_drewN w5 nq))⟩
      by_cases hp : (S.pages : Int) ≤ q.1
      · have E2 := Lib.hid (bad (fun hb => by have := (hb.1 q hqm).2; omega))
        have HL : Hid (True = True) := rfl
        clear bad hqm
        go_upto_region 5 with (first | ((with_reducible apply wc_load_img imgT IR.out HQ.out); exact rfl; go_frame) | ((with_reducible refine wc_alloc_img imgZero ?_); go_frame) | ((with_reducible apply wc_store_img_new imgT); (first | exact rfl | (simp only [World.size_alloc]; exact rfl)); exact rfl; go_frame))
        rw [HW5.out]
        (refine wp_region_walk (C := fun w' => ∃ n, w' = World.drewN w5 n) 19 (by kernel_rfl) (by kernel_rfl) ⟨1, rfl⟩ ?_; simp only [List.take_succ_cons, List.take_zero, List.drop_succ_cons, List.drop_zero]; (repeat (first | ((with_reducible refine wq_lookup1 keyI uMapInt intZero MP5.out ?_ ?_ (kk := q.1) ?_ ?_); exact rfl; exact rfl; exact rfl; simp only [HL.out]; go_frame) | go_big_quiet_step (fail))); refine wpQuiet_nil ?_; intro _ hw'; obtain ⟨nq, hw''⟩ := hw'; subst hw'')
        go_wp2_with fail
        go_ret
        rw [E2.out]
        exact ⟨rfl, TW.out.trans (T5.out.trans (tch_drewN w5 nq))⟩
      by_cases hmm : q.1 ∈ (ws.take j).map (·.1)
      · have E2 := Lib.hid (bad (fun hb => by
          have hn2 := hb.2
          rw [HD.out] at hn2
          exact (List.nodup_append.1 hn2).2.2 _ hmm _ (by simp) rfl))
        have HL : Hid (∀ z, (seenF ((ws.take j).map (·.1)) q.1).getD z = .int .i64 1) := fun z => by unfold seenF; rw [if_pos hmm]; rfl
        clear bad hqm hmm
        go_upto_region 5 with (first | ((with_reducible apply wc_load_img imgT IR.out HQ.out); exact rfl; go_frame) | ((with_reducible refine wc_alloc_img imgZero ?_); go_frame) | ((with_reducible apply wc_store_img_new imgT); (first | exact rfl | (simp only [World.size_alloc]; exact rfl)); exact rfl; go_frame))
        rw [HW5.out]
        (refine wp_region_walk (C := fun w' => ∃ n, w' = World.drewN w5 n) 19 (by kernel_rfl) (by kernel_rfl) ⟨1, rfl⟩ ?_; simp only [List.take_succ_cons, List.take_zero, List.drop_succ_cons, List.drop_zero]; (repeat (first | ((with_reducible refine wq_lookup1 keyI uMapInt intZero MP5.out ?_ ?_ (kk := q.1) ?_ ?_); exact rfl; exact rfl; exact rfl; simp only [HL.out]; go_frame) | go_big_quiet_step (fail))); refine wpQuiet_nil ?_; intro _ hw'; obtain ⟨nq, hw''⟩ := hw'; subst hw'')
        go_wp2_with fail
        go_ret
        rw [E2.out]
        exact ⟨rfl, TW.out.trans (T5.out.trans (tch_drewN w5 nq))⟩
      · have HL : Hid (∀ z, (seenF ((ws.take j).map (·.1)) q.1).getD z = z) := fun z => by unfold seenF; rw [if_neg hmm]; rfl
        have HMM := Lib.hid hmm
        clear bad hmm
        go_upto_region 5 with (first | ((with_reducible apply wc_load_img imgT IR.out HQ.out); exact rfl; go_frame) | ((with_reducible refine wc_alloc_img imgZero ?_); go_frame) | ((with_reducible apply wc_store_img_new imgT); (first | exact rfl | (simp only [World.size_alloc]; exact rfl)); exact rfl; go_frame))
        rw [HW5.out]
        (refine wp_region_walk (C := fun w' => ∃ n, w' = World.drewN w5 n) 19 (by kernel_rfl) (by kernel_rfl) ⟨1, rfl⟩ ?_; simp only [List.take_succ_cons, List.take_zero, List.drop_succ_cons, List.drop_zero]; (repeat (first | ((with_reducible refine wq_lookup1 keyI uMapInt intZero MP5.out ?_ ?_ (kk := q.1) ?_ ?_); exact rfl; exact rfl; exact rfl; simp only [HL.out]; go_frame) | go_big_quiet_step (fail))); refine wpQuiet_nil ?_; intro _ hw'; obtain ⟨nq, hw''⟩ := hw'; subst hw'')
        have T6 := Lib.hid (T5.out.trans (tch_drewN w5 nq))
        have MP6 := Lib.hid (MP5.out _ ⟨nq, rfl⟩)
        have c56 := cell_old (tch_drewN w5 nq) c5
        clear T5 MP5 c5 c25 HW5
        generalize w5.drewN nq = w6 at *
        go_wp2_with (first | ((with_reducible refine wc_lookup1 keyI uMapInt (intZero _) MP6.out (kk := q.1) ?_ ?_ ?_); exact rfl; exact rfl; simp only [HL.out]; go_frame) | ((with_reducible refine wc_mapUpdate keyI uMapInt MP6.out (kk := q.1) (v := .int .i64 1) ?_ ?_ ?_ (fun w7 t7 h7 => ?_)); exact rfl; exact rfl; exact rfl; rw [seenF_push] at h7; have T7 := Lib.hid t7; have H7 := Lib.hid h7; clear t7 h7; go_frame))
        go_roundg (m - (j + 1))
        case measure => omega
        case rel =>
          refine ⟨j + 1, ⟨by omega, by go_num, rfl⟩, by rw [HTK.out]; exact H7.out, TR.out.trans ((T6.out.mono (by simp)).trans T7.out), ?_, ?_⟩
          · rw [HTK.out]
            intro x hx
            rcases List.mem_append.1 hx with hx | hx
            · exact HIN.out x hx
            · rw [List.mem_singleton.1 hx]; omega
          · rw [HTK.out]
            refine List.nodup_append.2 ⟨HND.out, by simp, ?_⟩
            rintro a ha b hb rfl
            rw [List.mem_singleton] at hb
            exact HMM.out (hb ▸ ha)
    · have hfull : ws.take j = ws := List.take_of_length_le (by rw [HM.out]; omega)
      rw [hfull] at HIN HND
      have hjm' : j = m := by omega
      subst hjm'
      have hgood : (∀ q ∈ ws, 0 ≤ q.1 ∧ q.1 < S.pages) ∧ (ws.map (·.1)).Nodup := ⟨fun q hq => HIN.out q.1 (List.mem_map_of_mem hq), HND.out⟩
      have e : S.may ws = if 120 < j ∨ S.log < j + 2 then 82 else 0 := by unfold LogS.may; rw [if_pos hgood, HM.out]
      have E := Lib.hid e
      clear hfull hgood e
      by_cases h1 : 120 < j
      · have E2 : Hid (S.may ws = 82) := by show _ = _; rw [E.out, if_pos (.inl h1)]
        go_wp2_with fail
        go_ret
        rw [E2.out]
        exact ⟨rfl, TW.out⟩
      by_cases h2 : S.log < j + 2
      · have E2 : Hid (S.may ws = 82) := by show _ = _; rw [E.out, if_pos (.inr h2)]
        have h2' : (S.log : Int) - 2 < j := by omega
        go_wp2_with fail
        go_ret
        rw [E2.out]
        exact ⟨rfl, TW.out⟩
      · have E2 : Hid (S.may ws = 0) := by show _ = _; rw [E.out, if_neg (by omega)]
        have h2' : ¬ (S.log : Int) - 2 < j := by omega
        go_wp2_with fail
        go_ret
        rw [E2.out]
        exact ⟨rfl, TW.out⟩
end Go.Proofs.YthbaipljlbddcaaGreat
