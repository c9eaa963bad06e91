/-
  A record is in the log: package wal's took.
-/
import Derived.Test.YthbaipljlbddcaaGreatLogK
namespace Go.Cib
open Go Go.RowKit
section
variable {P : Program} {T e : TypeId} {ops : Array Oper} {rest : List Oper} {a : Act} {C : World → Prop} {Qs : Act → Prop} {dst : Option Tmp} {ty : TypeId} {pos : String} {af : Array Edge} {x y : Operand} {gd : Option (Nat × Bool)}
theorem img_page (n : Int) (p : Page) : (imageA n p).extract 1 (1 + 480) = secA p := by
  apply Array.toList_inj.1
  rw [Array.toList_extract, List.extract_eq_take_drop]
  have h1 : (imageA n p).toList = .int .i64 n :: (secA p).toList := by simp [imageA]
  rw [h1, List.drop_succ_cons, List.drop_zero, List.take_of_length_le (by rw [Array.length_toList, size_secA]; omega)]
theorem wq_load_imgpage (hT : AggT P T 480) {n : Int} {p : Page} {b : Nat} {e' : TypeId} {fr : Nat × Nat} (hb : ∀ w, C w → w.heap[b]? = some (.cells (imageA n p) e' fr)) (hw : Region.wanted ⟨dst, .load T x, ty, pos, af, gd⟩ (yielded ops a.tmps) = true) (hx : a.eval x = .pointer (some ⟨b, 1, none⟩))
    (h : wpQuiet P ops C Qs rest (a.put dst (.agg (secA p)))) : wpQuiet P ops C Qs (⟨dst, .load T x, ty, pos, af, gd⟩ :: rest) a :=
  wq_value hw (fun w hc => by rw [exec_load_agg hT rfl hx (hb w hc) (by rw [size_imageA]; omega), img_page]) h
end
/-- Pages laid over others. -/
def overs (o : Int → Option Page) (ws : List (Nat × Page)) : Int → Option Page := ws.foldl (fun o q p => if p = (q.1 : Int) then some q.2 else o p) o
theorem MapAt.ne_cells {κ : Type} {key : κ → Value} {w : World} {M : Nat} {f : κ → Option Value} (h : MapAt key w M f) {b : Nat} {c : Array Value} {e : TypeId} {fr : Nat × Nat} (hb : w.heap[b]? = some (.cells c e fr)) : b ≠ M := by
  rintro rfl
  obtain ⟨es, clk, h1, _⟩ := h
  rw [hb] at h1
  cases h1
end Go.Cib
namespace Go.Proofs.YthbaipljlbddcaaGreat
open Go.RowKit Go.Cib

set_option maxRecDepth 20000 in
set_option maxHeartbeats 1000000 in
theorem took_any {w : World} {g d L M V : Nat} {S : LogS} (h : LogAt w g d L M V S) {ia : Option Addr} {icap : Nat} {ws : List (Nat × Page)} (hI : ImgsAt w ia (ws.map fun q => ((q.1 : Int), q.2))) (hn : ws.length ≤ 120) (hu : S.used ≤ 4000) (hr : S.records ≤ 4000) :
    Calls Tryz.prog 52 #[.pointer (some ⟨g, 0, none⟩), .slice ia ws.length icap] w fun e w' =>
      e = .returned (.tuple #[]) ∧ LogAt w' g d L M V (S.took ws) ∧ Tch [g, V] w w' := by
  obtain ⟨m, hm⟩ : ∃ m, ws.length = m := ⟨_, rfl⟩
  rw [hm] at hn ⊢
  have H := Lib.hid h
  have HII := Lib.hid hI
  have HM := Lib.hid hm
  have hu0 : (0 : Int) ≤ S.used := by omega
  clear h hI hm
  go_enter Tryz.func52, Tryz.ntmps52
  go_wp2_with fail
  go_loopg [8] m (fun q i wr => ∃ j, OnAt m i q j ∧ LogAt wr g d L M V { S with over := overs S.over (ws.take j) } ∧ Tch [V] w wr)
  case atStart => exact ⟨0, ⟨Nat.zero_le _, rfl, rfl⟩, H.out, Tch.refl _ _⟩
  case round =>
    obtain ⟨j, ⟨hj, rfl, rfl⟩, hl, ht⟩ := hrel
    have LR := Lib.hid hl
    have TR := Lib.hid ht
    clear hl ht
    by_cases hjm : j < m
    · obtain ⟨q, hq⟩ : ∃ q, ws[j]? = some q := ⟨_, List.getElem?_eq_getElem (by rw [HM.out]; exact hjm)⟩
      have hq2 : (ws.map fun q => ((q.1 : Int), q.2))[j]? = some ((q.1 : Int), q.2) := by rw [List.getElem?_map, hq]; rfl
      obtain ⟨ib, ic, ie, ifr, rfl, hib, _⟩ := HII.out j _ hq2
      have hne : ib ≠ V := H.out.hV.ne_cells hib
      have IR := Lib.hid (HII.out.touch TR.out (by intro b hb; cases hb; simpa using hne))
      have HQ := Lib.hid hq
      have HQ2 := Lib.hid hq2
      clear hq hq2 hib
      go_upto_region 3 with (first | ((with_reducible apply wc_load_img imgT IR.out HQ2.out); exact rfl; go_frame) | ((with_reducible refine wc_alloc_img imgZero ?_); go_frame) | ((with_reducible apply wc_store_img_new imgT); (first | exact rfl | (simp only [World.size_alloc]; exact rfl)); exact rfl; go_frame))
      obtain ⟨w5, hw5⟩ : ∃ w5, wr.alloc (.cells (imageA q.1 q.2) 68) = w5 := ⟨_, rfl⟩
      rw [hw5]
      have t5 : Tch [] wr w5 := by rw [← hw5]; exact (Tch.refl _ _).alloc _
      have b5 : w5.heap[wr.heap.size]? = some (.cells (imageA q.1 q.2) 68) := by rw [← hw5]; exact heap_alloc_new _ _
      have c5 := cell_img0 b5
      have h5 := LR.out.touch t5 (by simp) (by simp) (by simp) (by simp) (by simp)
      have c6 := h5.cell 6 rfl
      have CB : Hid (∀ w', (∃ n, w' = World.drewN w5 n) → w'.heap[wr.heap.size]? = some (.cells (imageA q.1 q.2) 68)) := drewN_heap b5
      have T5 := Lib.hid t5
      have H5 := Lib.hid h5
      clear hw5 t5 b5 h5
      (refine wp_region_walk (C := fun w' => ∃ n, w' = World.drewN w5 n) 8 (by kernel_rfl) (by kernel_rfl) ⟨1, rfl⟩ ?_; simp only [List.take_succ_cons, List.take_zero, List.drop_succ_cons, List.drop_zero]; (repeat (first | ((with_reducible refine wq_load_imgpage pageT.agg CB.out ?_ ?_ ?_); exact rfl; exact rfl; go_frame) | go_big_quiet_step (fail))); refine wpQuiet_nil ?_; intro _ hw'; obtain ⟨nq, hw''⟩ := hw'; subst hw'')
      have t6 : Tch [] wr (w5.drewN nq) := T5.out.trans (tch_drewN w5 nq)
      have h6 := H5.out.touch (tch_drewN w5 nq) (by simp) (by simp) (by simp) (by simp) (by simp)
      refine wc_mapUpdate keyI uMapPage h6.hV (kk := (q.1 : Int)) (v := .agg (secA q.2)) rfl rfl rfl (fun w7 t7 h7 => ?_)
      have e7 : upd (fun i => (overs S.over (ws.take j) i).map fun x => Value.agg (secA x)) (q.1 : Int) (.agg (secA q.2)) = fun i => (overs S.over (ws.take (j + 1)) i).map fun x => Value.agg (secA x) := by
        rw [upd_arr, List.take_add_one, HQ.out]
        unfold overs
        rw [List.foldl_append]
        rfl
      rw [e7] at h7
      have h8 : LogAt w7 g d L M V { S with over := overs S.over (ws.take (j + 1)) } := ⟨t7.heap h6.hg (by simpa using h6.gV), h6.hD.touch t7 (by simpa using h6.dV) (by simpa using h6.LV) (by simpa using h6.MV), h7, h6.gd, h6.gL, h6.gM, h6.gV, h6.dV, h6.LV, h6.MV⟩
      have H8 := Lib.hid h8
      have T8 := Lib.hid (TR.out.trans ((t6.mono (by simp)).trans t7))
      clear h7 h8 t7 t6 h6 e7
      go_wp2_with fail
      go_roundg (m - (j + 1))
      case measure => omega
      case rel => exact ⟨j + 1, ⟨by omega, by go_num, rfl⟩, H8.out, T8.out⟩
    · have hfull : ws.take j = ws := List.take_of_length_le (by rw [HM.out]; omega)
      rw [hfull] at LR
      have hjm' : j = m := by omega
      subst hjm'
      have c4 := LR.out.cell 4 rfl
      have c5 := LR.out.cell 5 rfl
      have f4 := LR.out.froz 4
      have f5 := LR.out.froz 5
      have hgl := lt_of_heap LR.out.hg
      obtain ⟨u2, hu2⟩ : ∃ u2 : Nat, S.used + j + 2 = u2 := ⟨_, rfl⟩
      obtain ⟨r2, hr2⟩ : ∃ r2 : Nat, S.records + 1 = r2 := ⟨_, rfl⟩
      obtain ⟨w4, hw4⟩ : ∃ w4, wr.setCell ⟨g, 4, none⟩ (.int .i64 u2) = w4 := ⟨_, rfl⟩
      have eu : (S.used : Int) + (j + 2) = u2 := by omega
      have er : IntKind.u64.wrap ((S.records : Int) + 1) = r2 := by simp [IntKind.wrap, IntKind.bits, IntKind.signed]; omega
      have hb4 : w4.heap[g]? = some (.cells #[.pointer (some ⟨d, 0, none⟩), .int .i64 S.log, .int .i64 S.pages, .int .u64 S.gen, .int .i64 u2, .int .u64 S.records, .map (some V), .bool S.dead] 91) := by rw [← hw4, heap_setCell_cells LR.out.hg]; rfl
      have c54 : w4.cell? ⟨g, 5, none⟩ = some (.int .u64 S.records) := by rw [cell_of_row w4 g 5 _ _ _ hb4]; rfl
      have f54 := frozen_of_row w4 g 5 _ _ hb4
      have HB4 := Lib.hid hb4
      have HW4 := Lib.hid hw4
      have HU2 := Lib.hid hu2
      have HR2 := Lib.hid hr2
      clear hw4 hb4 hfull hu2 hr2
      go_upto_region 6 with fail
      rw [HW4.out]
      go_wp2_with fail
      go_end0
      have t9 : Tch [g] wr (w4.setCell ⟨g, 5, none⟩ (.int .u64 r2)) := by rw [← HW4.out]; exact ((Tch.refl _ _).setCell (by simp) _).setCell (by simp) _
      have hl := LR.out
      have e9 : S.took ws = { S with over := overs S.over ws, used := u2, records := r2 } := by
        unfold LogS.took overs
        rw [HM.out, HU2.out, HR2.out]
      rw [e9]
      refine ⟨rfl, ⟨?_, hl.hD.touch t9 (by simpa using hl.gd.symm) (by simpa using hl.gL.symm) (by simpa using hl.gM.symm), hl.hV.touch t9 (by simpa using hl.gV.symm), hl.gd, hl.gL, hl.gM, hl.gV, hl.dV, hl.LV, hl.MV⟩, (TR.out.mono (by simp)).trans (t9.mono (by simp))⟩
      rw [heap_setCell_cells HB4.out]; rfl
end Go.Proofs.YthbaipljlbddcaaGreat
