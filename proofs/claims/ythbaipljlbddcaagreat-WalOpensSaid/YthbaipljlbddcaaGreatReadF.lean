/-
  A sector's frame: package wal's read.
-/
import Derived.Test.YthbaipljlbddcaaGreatReadW
import Derived.Test.YthbaipljlbddcaaGreatRegAll
namespace Go.Cib
open Go Go.RowKit
def kindF (k : UInt8) : FrameV := ⟨k, 0, 0, 0, Arr.zero⟩
theorem frame_set0 (f : FrameV) (k : UInt8) : (frameA f).setIfInBounds 0 (bv k) = frameA { f with kind := k } := by
  unfold frameA; rw [Array.setIfInBounds_append_left (by simp)]; rfl
theorem exec_store_frame {P : Program} {T e : TypeId} {a : Act} {w : World} {x y : Operand} (hT : FrameT P T) {b : Nat} {f g : FrameV} {o : Oper} (ho : o.op = .store T x y) (hb : w.heap[b]? = some (.cells (frameA f) e)) (hx : a.eval x = .pointer (some ⟨b, 0, none⟩)) (hy : a.eval y = .agg (frameA g)) :
    (execOp a.eval o).run P w = .ok .skip (w.setRow b (frameA g)) := by
  rw [exec_store_agg hT.agg ho hx hy (size_frameA g) (frameA_one g) hb (by rw [size_frameA]; omega), spl_frame]
theorem stpR_skip {P : Program} {K : Value → World → Prop} {r : Result Next} {w : World} (h : r = .ok .skip w) (hK : K undef w) : StpR P K r := by rw [h]; exact hK
end Go.Cib
namespace Go.Proofs.YthbaipljlbddcaaGreat
open Go.RowKit Go.Cib
theorem run_build_frame (k : Int) (w : World) : (Instr.build 105 #[(0, .int .u8 k)]).run Tryz.prog w = .ok (.agg ((frameA FrameV.zero).setIfInBounds 0 (.int .u8 k))) w := by kernel_rfl
theorem exec_build_frame {a : Act} {w : World} {dst : Option Tmp} {ty : TypeId} {pos : String} {af : Array Edge} {x : Operand} {gd : Option (Nat × Bool)} {k : UInt8} (hx : a.eval x = .int .u8 k.toNat) :
    (execOp a.eval ⟨dst, .build 105 #[(0, x)], ty, pos, af, gd⟩).run Tryz.prog w = .ok (.value (.agg (frameA (kindF k)))) w := by
  have h := run_build_frame k.toNat w
  have e : (frameA FrameV.zero).setIfInBounds 0 (.int .u8 k.toNat) = frameA (kindF k) := frame_set0 FrameV.zero k
  rw [e] at h
  unfold execOp
  simp [hx, h]
theorem wc_build_frame {ops : Array Oper} {rest : List Oper} {a : Act} {w : World} {Q : Exit → Act → World → Prop} {dst : Option Tmp} {ty : TypeId} {pos : String} {af : Array Edge} {x : Operand} {k : UInt8} (hx : a.eval x = .int .u8 k.toNat)
    (h : wpList Tryz.prog ops Q rest (a.put dst (.agg (frameA (kindF k)))) w) : wpList Tryz.prog ops Q (⟨dst, .build 105 #[(0, x)], ty, pos, af, none⟩ :: rest) a w :=
  wc_value rfl (exec_build_frame hx) h
set_option maxRecDepth 20000 in
theorem cf_sector (args : Array Value) (w : World) : (callFunc 70 args).run Tryz.prog w = .ok (.enter 70 args) w := rfl

set_option maxRecDepth 20000 in
set_option maxHeartbeats 2000000 in
theorem wread_any (s : Sec) (w : World) : Calls Tryz.prog 53 #[.agg (secA s)] w fun e w' => e = .returned (.tuple #[.agg (frameA (parse s)), .bool (decide ((parse s).sector = s))]) ∧ Tch [] w w' := by
  obtain ⟨w1, hw1⟩ : ∃ w1, (w.alloc (.cells (secA s) 26)).alloc (.cells (frameA FrameV.zero) 105) = w1 := ⟨_, rfl⟩
  have HW1 := Lib.hid hw1
  clear hw1
  go_enter Tryz.func53, Tryz.ntmps53
  go_upto_region 1 with (first | ((with_reducible refine wc_box_agg ?_ ?_); exact rfl; go_frame) | ((with_reducible refine wc_alloc_frame frameTT ?_); go_frame; (try simp only [World.size_alloc])))
  rw [HW1.out]
  have hB : w1.heap[w.heap.size]? = some (.cells (secA s) 26) := by
    rw [← HW1.out, heap_alloc, if_neg (by simp), heap_alloc, if_pos rfl]
  have hR : w1.heap[w.heap.size + 1]? = some (.cells (frameA FrameV.zero) 105) := by
    rw [← HW1.out, heap_alloc, if_pos (by simp)]
  have ht : Tch [] w w1 := by rw [← HW1.out]; exact ((Tch.refl _ _).alloc _).alloc _
  have CR : Hid (Calls Tryz.prog 79 #[.slice (some ⟨w.heap.size, 4, none⟩) 508 508] w1 (ReaderOut w1 (s.l.drop 4))) := by
    have hl : (s.l.drop 4).length = 508 := by rw [List.length_drop, s.h]
    have h := octRead_any (w := w1) (ad := ⟨w.heap.size, 4, none⟩) (cap := 508) (bytesAt_row hB 4) (by intro e; rw [e] at hl; simp at hl) (by omega)
    rw [hl] at h
    exact h
  have HB := Lib.hid hB
  have HR := Lib.hid hR
  have HT := Lib.hid ht
  have hnR : w.heap.size + 1 < w1.heap.size := lt_of_heap hR
  clear hB hR ht HW1
  go_wp2_with fail
  refine CR.out.mono ?_
  rintro e w2 ⟨r, b, o, cap, rfl, hr, hrn, ht2⟩
  have hrlt := lt_of_heap hr.hr
  have HL : Hid ((s.l.drop 4).length = 508) := by show _ = _; rw [List.length_drop, s.h]
  have R2 := Lib.hid hr
  have T2 := Lib.hid ht2
  have B2 := Lib.hid (ht2.heap HB.out (by simp))
  have Q2 := Lib.hid (ht2.heap HR.out (by simp))
  clear hr ht2 CR HB HR
  go_wp2_with fail
  refine (octU8_any R2.out (by rw [HL.out]; omega)).mono ?_
  rintro e w3 ⟨rfl, hr3, ht3⟩
  generalize hk : (s.l.drop 4).getD 0 0 = kd
  have HKD := Lib.hid hk
  have hrlt3 : r < w3.heap.size := lt_of_heap hr3.hr
  have blt3 : b < w3.heap.size := by
    obtain ⟨b', o', e, hc⟩ := hr3.hb 0 ((s.l.drop 4)[0]'(by rw [HL.out]; omega)) (List.getElem?_eq_getElem _)
    cases e
    exact block_lt_of_cell hc
  have R3 := Lib.hid hr3
  have B3 := Lib.hid (ht3.heap B2.out (by simp; omega))
  have Q3 := Lib.hid (ht3.heap Q2.out (by simp; omega))
  have T3 := Lib.hid (tch_own (HT.out.trans T2.out) ht3 (by have := HT.out.size; simp; omega))
  clear hr3 ht3 hk R2 B2 Q2
  go_wp2_with (first | ((with_reducible refine wc_build_frame (k := kd) ?_ ?_); exact rfl; go_frame) | ((with_reducible refine wc_alloc_frame frameTT ?_); go_frame) | ((with_reducible apply wc_store_frame frameTT (heap_alloc_new w3 (.cells (frameA FrameV.zero) 105)) (g := kindF kd)); exact rfl; exact rfl; go_frame; rw [setRow_alloc_new]))
  have hF : (w3.alloc (.cells (frameA (kindF kd)) 105)).heap[w3.heap.size]? = some (.cells (frameA (kindF kd)) 105) := heap_alloc_new _ _
  have ta : Tch [] w3 (w3.alloc (.cells (frameA (kindF kd)) 105)) := (Tch.refl _ _).alloc _
  have F4 := Lib.hid hF
  have R4 := Lib.hid (R3.out.touch ta (by simp) (by simp))
  have B4 := Lib.hid (ta.heap B3.out (by simp))
  have Q4 := Lib.hid (ta.heap Q3.out (by simp))
  have T4 := Lib.hid (T3.out.trans ta)
  have hFw : w.heap.size ≤ w3.heap.size := T3.out.size
  clear hF ta R3 B3 Q3 T3
  generalize w3.alloc (.cells (frameA (kindF kd)) 105) = w4 at *
  obtain ⟨F, hFe⟩ : ∃ F, w3.heap.size = F := ⟨_, rfl⟩
  rw [hFe] at F4 hrlt3 blt3 hFw ⊢
  clear hFe
  have hrw : w.heap.size ≤ r := by have := HT.out.size; omega
  have hBr : w.heap.size ≠ r := by omega
  have hQr : w.heap.size + 1 ≠ r := by omega
  refine (raw_any R4.out 3 (by omega) (by rw [HL.out]; omega)).mono ?_
  rintro e w5 ⟨⟨v, rfl⟩, hr5, ht5⟩
  have R5 := Lib.hid hr5
  have T5 := Lib.hid ht5
  clear hr5 ht5 R4
  go_wp2_with fail
  refine (octU64_any R5.out (by rw [HL.out]; omega)).mono ?_
  rintro e w6 ⟨rfl, hr6, ht6⟩
  have R6 := Lib.hid hr6
  have T6 := Lib.hid (T5.out.trans ht6)
  clear hr6 ht6 R5 T5
  go_wp2_with fail
  refine (octU64_any R6.out (by rw [HL.out]; omega)).mono ?_
  rintro e w7 ⟨rfl, hr7, ht7⟩
  have R7 := Lib.hid hr7
  have T7 := Lib.hid (T6.out.trans ht7)
  clear hr7 ht7 R6 T6
  go_wp2_with fail
  refine (octU32_any R7.out (by rw [HL.out]; omega)).mono ?_
  rintro e w8 ⟨rfl, _, ht8⟩
  have hT8 : Tch [r] w4 w8 := T7.out.trans ht8
  have hF8 := hT8.heap F4.out (by simp; omega)
  have B8 := Lib.hid (hT8.heap B4.out (by simpa using hBr))
  have Q8 := Lib.hid (hT8.heap Q4.out (by simpa using hQr))
  have T8 := Lib.hid (tch_own T4.out hT8 (by simpa using hrw))
  generalize hg3 : beVal (((s.l.drop 4).drop (0 + 1 + 3 + 8 + 8)).take 4) = n3
  have G3 := Lib.hid hg3
  have c1 := cell_of_row w8 F 1 _ _ _ hF8
  have c2 := cell_of_row w8 F 2 _ _ _ hF8
  have c3 := cell_of_row w8 F 3 _ _ _ hF8
  have f1 := frozen_of_row w8 F 1 _ _ hF8
  have f2 := frozen_of_row w8 F 2 _ _ hF8
  have f3 := frozen_of_row w8 F 3 _ _ hF8
  have fr : ∀ j : Nat, j < 4 → (frameA (kindF kd))[j]? = (#[bv kd, .int .u64 0, .int .u64 0, .int .u32 0] : Array Value)[j]? := by
    intro j hj
    unfold frameA
    rw [Array.getElem?_append_left (by simpa using hj)]
    rfl
  rw [fr 1 (by omega)] at c1
  rw [fr 2 (by omega)] at c2
  rw [fr 3 (by omega)] at c3
  simp only [List.getElem?_toArray, List.getElem?_cons_zero, List.getElem?_cons_succ] at c1 c2 c3
  have F8 := Lib.hid hF8
  clear hF8 fr hT8 ht8 R7 T7 hg3 B4 Q4 T4 F4
  go_upto_region 5 with fail
  generalize hg1 : beVal (List.take 8 (List.drop 8 s.l)) = n1
  generalize hg2 : beVal (List.take 8 (List.drop 16 s.l)) = n2
  have G1 := Lib.hid hg1
  have G2 := Lib.hid hg2
  clear hg1 hg2 c1 c2 c3 f1 f2 f3
  have tq : Tch [F] w8 (((w8.setCell ⟨F, 1, none⟩ (.int .u64 n1)).setCell ⟨F, 2, none⟩ (.int .u64 n2)).setCell ⟨F, 3, none⟩ (.int .u32 n3)) := (((Tch.refl _ _).setCell (by simp) _).setCell (by simp) _).setCell (by simp) _
  have hF9 : (((w8.setCell ⟨F, 1, none⟩ (.int .u64 n1)).setCell ⟨F, 2, none⟩ (.int .u64 n2)).setCell ⟨F, 3, none⟩ (.int .u32 n3)).heap[F]? = some (.cells (frameA ⟨kd, n1, n2, n3, Arr.zero⟩) 105) := by
    rw [heap_setCell_cells (heap_setCell_cells (heap_setCell_cells F8.out _ _) _ _) _ _, frame_set1, frame_set2, frame_set3]
    rfl
  have hBF : w.heap.size ≠ F := by omega
  have hQF : w.heap.size + 1 ≠ F := by omega
  have F9 := Lib.hid hF9
  have B9 := Lib.hid (tq.heap B8.out (by simpa using hBF))
  have Q9 := Lib.hid (tq.heap Q8.out (by simpa using hQF))
  have T9 := Lib.hid (tch_own T8.out tq (by simpa using hFw))
  clear tq hF9 F8 B8 Q8 T8
  generalize ((w8.setCell ⟨F, 1, none⟩ (.int .u64 n1)).setCell ⟨F, 2, none⟩ (.int .u64 n2)).setCell ⟨F, 3, none⟩ (.int .u32 n3) = w9 at *
  (refine wp_region_walk (C := fun w' => ∃ n, w' = World.drewN w9 n) 3 (by kernel_rfl) (by kernel_rfl) ⟨1, rfl⟩ ?_; simp only [List.take_succ_cons, List.take_zero, List.drop_succ_cons, List.drop_zero]; (repeat (first | fail | go_big_quiet_step (fail))); refine wpQuiet_nil ?_; intro _ hw'; obtain ⟨nq, hw''⟩ := hw'; subst hw'')
  have hp : parse s = ⟨kd, n1, n2, n3, ⟨s.l.drop 32, by rw [List.length_drop, s.h]⟩⟩ := by
    refine FrameV.ext' ?_ G1.out G2.out ?_ rfl
    · show s.l.getD 4 0 = kd
      rw [← HKD.out]
      simp [List.getD_eq_getElem?_getD, List.getElem?_drop]
    · show beVal ((s.l.drop 24).take 4) = n3
      rw [← G3.out, List.drop_drop]
  have HPS := Lib.hid hp
  clear hp
  have COPY : Hid (∀ {ops : Array Oper} {rest : List Oper} {a2 : Act} {Q : Exit → Act → World → Prop} {dst : Option Tmp} {ty : TypeId} {pos : String} {af : Array Edge} {x y : Operand}, a2.eval x = .slice (some ⟨F, 4, none⟩) 480 480 → a2.eval y = .slice (some ⟨w.heap.size, 32, none⟩) 480 480 →
      (∀ w', w'.heap[F]? = some (.cells (frameA (parse s)) 105) → Tch [F] w9 w' → wpList Tryz.prog ops Q rest (a2.put dst (goInt 480)) w') → wpList Tryz.prog ops Q (⟨dst, .call { callee := .builtin .copy, args := #[x, y], argTypes := #[130, 130] }, ty, pos, af, none⟩ :: rest) a2 (w9.drewN nq)) := by
    intro ops rest a2 Q dst ty pos af x y hx hy h
    have hS : (w9.drewN nq).heap[F]? = some (.cells (frameA ⟨kd, n1, n2, n3, Arr.zero⟩) 105) := drewN_heap F9.out _ ⟨nq, rfl⟩
    refine wc_copy_page byteT hS (p := ⟨s.l.drop 32, by rw [List.length_drop, s.h]⟩) (bytesAt_row (drewN_heap B9.out _ ⟨nq, rfl⟩) 32) hx hy ?_
    refine h _ ?_ (((tch_drewN w9 nq).mono (by simp)).setRow (.inl (by simp)) _)
    rw [setRow_heap _ _ _ _ _ _ hS, HPS.out]
  go_upto_region 6 with ((with_reducible apply COPY.out); exact rfl; exact rfl; intro w10 hg10 ht10; go_frame; have F10 := Lib.hid hg10; have B10 := Lib.hid (ht10.heap B9.out (by simpa using hBF)); have Q10 := Lib.hid (ht10.heap Q9.out (by simpa using hQF)); have T10 := Lib.hid (tch_own T9.out ht10 (by simpa using hFw)); clear hg10 ht10)
  obtain ⟨R, hRe⟩ : ∃ R, w.heap.size + 1 = R := ⟨_, rfl⟩
  rw [hRe] at Q10 hQF ⊢
  have hRw : w.heap.size ≤ R := by omega
  have hBR : w.heap.size ≠ R := by omega
  clear hRe
  have CS : Hid (∀ w', Calls Tryz.prog 70 #[.agg (frameA (parse s))] w' fun e w'' => e = .returned (.agg (secA (parse s).sector)) ∧ Tch [] w' w'') := fun w' => sector_any (parse s) (parse_ok s) w'
  have LF : Hid (∀ w', Tch [R] w10 w' → w'.heap[F]? = some (.cells (frameA (parse s)) 105)) := fun w' h => h.heap F10.out (by simpa using Ne.symm hQF)
  have LB : Hid (∀ w', Tch [R] w10 w' → w'.heap[w.heap.size]? = some (.cells (secA s) 26)) := fun w' h => h.heap B10.out (by simpa using hBR)
  refine wp_region_one 7 5 [.agg (frameA (parse s)), .agg (frameA (parse s)), .agg (secA (parse s).sector), .agg (secA s), .bool (decide ((parse s).sector = s)), undef, .bool (decide ((parse s).sector = s))] _
    (fun b w' => Tch [R] w10 w' ∧ w'.heap[R]? = some (.cells (frameA (cond b (parse s) FrameV.zero)) 105)) (by kernel_rfl) (by kernel_rfl) rfl
    (by simp only [putAll, List.take_succ_cons, List.take_zero]; go_frame; exact rfl) (by decide) ⟨(Tch.refl _ _).drew, Q10.out⟩ ?_ ?_ ?_
  · intro b
    simp only [List.take_succ_cons, List.take_zero]
    refine stepsBut_cons (stepOk_value rfl fun W hW => exec_load_frame frameTT rfl (LF.out W hW.1) rfl) (stepsBut_cons (stepOk_value rfl fun W hW => exec_load_frame frameTT rfl (LF.out W hW.1) rfl) (stepsBut_cons (stepOk_call (f := 70) (args := #[.agg (frameA (parse s))]) rfl (fun W => ?_) (fun W hW => ?_)) (stepsBut_cons (stepOk_value rfl fun W hW => exec_load_var secT rfl (LB.out W hW.1) rfl) (stepsBut_cons (stepOk_value rfl fun W hW => ?_) (stepsBut_here (stepsOk_cons (stepOk_value rfl fun W hW => ?_) stepsOk_nil))))))
    · go_simp
    · refine (CS.out W).mono ?_
      rintro e w' ⟨rfl, h2⟩
      exact ⟨rfl, hW.1.trans (h2.mono (by simp)), h2.heap hW.2 (by simp)⟩
    · rw [exec_eql_bytes secT rfl (xs := (parse s).sector.l) (ys := s.l) rfl rfl (parse s).sector.h s.h, decide_arr]
    · rfl
  · intro o W ho hW
    simp only [List.getElem?_cons_zero, List.getElem?_cons_succ, Option.some.injEq] at ho
    subst ho
    refine ⟨rfl, ?_⟩
    exact stpR_skip (exec_store_frame (g := parse s) frameTT rfl hW.2 rfl rfl) ⟨rfl, hW.1.setRow (.inl (by simp)) _, setRow_heap _ _ _ _ _ _ hW.2⟩
  intro wZ hZ
  have F11 := Lib.hid hZ.2
  have T11 := Lib.hid (tch_own T10.out hZ.1 (by simpa using hRw))
  clear hZ
  simp only [List.drop_succ_cons, List.drop_zero]
  go_wp2_with fail
  refine bodyPost_ret (res_cell_tmp frameT rfl _ rfl F11.out (size_frameA _)) rfl ?_
  exact ⟨rfl, T11.out⟩
end Go.Proofs.YthbaipljlbddcaaGreat
