/-
  One op done to the disk and to the document's disk: 'does'.
-/
import Derived.Test.YtpfgjopiddopbaaTwin
import Derived.Test.YtpfgjopiddopbaaBlind
import Derived.Test.YtpfgjopiddopbaaRegion3
namespace Go.Proofs.Ytpfgjopiddopbaa
open Go.RowKit Go.Cib

/-- The disk and the document's disk, both the call's own. -/
structure Both (w0 w : World) (d L M : Nat) (D1 : DiskS) (r RL RW RH : Nat) (D2 : DiskS) (B : List (Nat × Obj)) : Prop where
  dk : DiskAt w d L M D1
  rf : RefAt w r RL RW RH D2
  sep : ∀ x ∈ [d, L, M], x ∉ [r, RL, RW, RH]
  bx : Boxes w0 w [d, L, M, r, RL, RW, RH] B
section
variable {w0 w w' : World} {d L M r RL RW RH : Nat} {D1 D2 D : DiskS} {B B' : List (Nat × Obj)}
theorem RefAt.far {S : List Nat} (h : RefAt w r RL RW RH D) (ht : Tch S w w') (hs : ∀ x ∈ [r, RL, RW, RH], x ∉ S) : RefAt w' r RL RW RH D :=
  h.touch ht (hs r (by simp)) (hs RL (by simp)) (hs RW (by simp)) (hs RH (by simp))
theorem Both.stepD (h : Both w0 w d L M D1 r RL RW RH D2 B) (hA : DiskAt w' d L M D) {S : List Nat} (ht : Tch S w w') (hS : ∀ k ∈ S, k ∈ [d, L, M]) : Both w0 w' d L M D r RL RW RH D2 B :=
  ⟨hA, h.rf.far ht (fun x hx hm => h.sep x (hS x hm) hx), h.sep, h.bx.step ht (fun k hk => by have := hS k hk; simp at this ⊢; omega)⟩
theorem Both.stepR (h : Both w0 w d L M D1 r RL RW RH D2 B) (hR : RefAt w' r RL RW RH D) {S : List Nat} (ht : Tch S w w') (hS : ∀ k ∈ S, k ∈ [r, RL, RW, RH]) : Both w0 w' d L M D1 r RL RW RH D B :=
  ⟨h.dk.far ht (fun x hx hm => h.sep x hx (hS x hm)), hR, h.sep, h.bx.step ht (fun k hk => by have := hS k hk; simp at this ⊢; omega)⟩
theorem Both.same (h : Both w0 w d L M D1 r RL RW RH D2 B) (ht : Tch [] w w') : Both w0 w' d L M D1 r RL RW RH D2 B :=
  ⟨h.dk.far ht (by simp), h.rf.far ht (by simp), h.sep, h.bx.same ht⟩
theorem Both.put (h : Both w0 w d L M D1 r RL RW RH D2 B) (o : Obj) : Both w0 (w.alloc o) d L M D1 r RL RW RH D2 ((w.heap.size, o) :: B) :=
  ⟨h.dk.far ((Tch.refl [] w).alloc o) (by simp), h.rf.far ((Tch.refl [] w).alloc o) (by simp), h.sep, h.bx.put o⟩
theorem Both.drop (h : Both w0 w d L M D1 r RL RW RH D2 B) (hb : ∀ x ∈ B', x ∈ B) : Both w0 w d L M D1 r RL RW RH D2 B' := ⟨h.dk, h.rf, h.sep, h.bx.drop hb⟩
theorem Both.offD (h : Both w0 w d L M D1 r RL RW RH D2 B) {o : OpV} (ho : OpOk w0 o) : ∀ x, o.keep ≠ [] → o.ka = some x → x.block ≠ d ∧ x.block ≠ L ∧ x.block ≠ M :=
  ho.off (h.bx.own d (by simp)).1 (h.bx.own L (by simp)).1 (h.bx.own M (by simp)).1
theorem Both.offR (h : Both w0 w d L M D1 r RL RW RH D2 B) {o : OpV} (ho : OpOk w0 o) : ∀ x, o.keep ≠ [] → o.ka = some x → x.block ∉ [r, RL, RW, RH] := fun x e1 e2 => by
  have h1 := ints_old ho.keep (h.bx.own r (by simp)).1 x e1 e2
  have h2 := ints_old ho.keep (h.bx.own RL (by simp)).1 x e1 e2
  have h3 := ints_old ho.keep (h.bx.own RW (by simp)).1 x e1 e2
  have h4 := ints_old ho.keep (h.bx.own RH (by simp)).1 x e1 e2
  simp [h1, h2, h3, h4]
end

set_option maxRecDepth 20000 in
set_option maxHeartbeats 2000000 in
theorem does_2 {w0 w : World} {d L M r RL RW RH : Nat} {D : DiskS} (h : Both w0 w d L M D r RL RW RH D []) (o : OpV) (ho : OpOk w0 o) (hw : o.what = 2) :
    Calls Try.prog 21 #[.pointer (some ⟨d, 0, none⟩), .pointer (some ⟨r, 0, none⟩), o.val] w fun e w' => e = .returned (.bool true) ∧ Both w0 w' d L M D.flush.2 r RL RW RH D.flush.2 [] := by
  have hx := h.put o.cells
  have HX := Lib.hid hx
  have HO := Lib.hid ho
  clear h hx ho
  unfold OpV.cells at HX
  unfold OpV.val
  obtain ⟨what, oi, text, ka, keep, kcap⟩ := o
  simp only at hw
  subst hw
  go_enter Try.func21, Try.ntmps21
  go_wp2_with (first | (go_at_call 14; refine (flush_any HX.out.dk).mono ?_; rintro e w' ⟨rfl, hq1, hq2⟩; have HQ := Lib.hid (HX.out.stepD hq1 hq2 (by simp)); clear hq1 hq2 HX) | (go_at_call 34; refine (refFlush_any HQ.out.rf).mono ?_; rintro e w' ⟨rfl, hq1, hq2⟩; have HR := Lib.hid (HQ.out.stepR hq1 hq2 (by simp)); clear hq1 hq2 HQ))
  go_ret
  exact ⟨by simp, HR.out.drop (by simp)⟩

set_option maxRecDepth 20000 in
set_option maxHeartbeats 2000000 in
theorem does_4 {w0 w : World} {d L M r RL RW RH : Nat} {D : DiskS} (h : Both w0 w d L M D r RL RW RH D []) (o : OpV) (ho : OpOk w0 o) (hw : o.what = 4) :
    Calls Try.prog 21 #[.pointer (some ⟨d, 0, none⟩), .pointer (some ⟨r, 0, none⟩), o.val] w fun e w' => e = .returned (.bool true) ∧ Both w0 w' d L M (D.arm o.i).2 r RL RW RH (D.arm o.i).2 [] := by
  have hx := h.put o.cells
  have HX := Lib.hid hx
  have HO := Lib.hid ho
  clear h hx ho
  unfold OpV.cells at HX
  unfold OpV.val
  obtain ⟨what, oi, text, ka, keep, kcap⟩ := o
  simp only at hw
  subst hw
  go_enter Try.func21, Try.ntmps21
  go_wp2_with (first | (go_at_call 11; refine (arm_any HX.out.dk oi HO.out.hi).mono ?_; rintro e w' ⟨rfl, hq1, hq2⟩; have HQ := Lib.hid (HX.out.stepD hq1 hq2 (by simp)); have e1 := cell_of_row w' w.heap.size 1 _ _ _ (HQ.out.bx.got (List.mem_singleton.2 rfl)); simp only [List.getElem?_toArray, List.getElem?_cons_zero, List.getElem?_cons_succ] at e1; clear hq1 hq2 HX) | (go_at_call 36; refine (refArm_any HQ.out.rf oi HO.out.hi).mono ?_; rintro e w' ⟨rfl, hq1, hq2⟩; have HR := Lib.hid (HQ.out.stepR hq1 hq2 (by simp)); clear hq1 hq2 HQ))
  go_ret
  exact ⟨by simp, HR.out.drop (by simp)⟩

set_option maxRecDepth 20000 in
set_option maxHeartbeats 2000000 in
theorem does_5 {w0 w : World} {d L M r RL RW RH : Nat} {D : DiskS} (h : Both w0 w d L M D r RL RW RH D []) (o : OpV) (ho : OpOk w0 o) (hw : o.what = 5) :
    Calls Try.prog 21 #[.pointer (some ⟨d, 0, none⟩), .pointer (some ⟨r, 0, none⟩), o.val] w fun e w' => e = .returned (.bool true) ∧ Both w0 w' d L M D.off r RL RW RH D.off [] := by
  have hx := h.put o.cells
  have HX := Lib.hid hx
  have HO := Lib.hid ho
  clear h hx ho
  unfold OpV.cells at HX
  unfold OpV.val
  obtain ⟨what, oi, text, ka, keep, kcap⟩ := o
  simp only at hw
  subst hw
  go_enter Try.func21, Try.ntmps21
  go_wp2_with (first | (go_at_call 24; refine (off_any HX.out.dk).mono ?_; rintro e w' ⟨rfl, hq1, hq2⟩; have HQ := Lib.hid (HX.out.stepD hq1 hq2 (by simp)); clear hq1 hq2 HX) | (go_at_call 37; refine (refOff_any HQ.out.rf).mono ?_; rintro e w' ⟨rfl, hq1, hq2⟩; have HR := Lib.hid (HQ.out.stepR hq1 hq2 (by simp)); clear hq1 hq2 HQ))
  go_ret
  exact ⟨rfl, HR.out.drop (by simp)⟩

set_option maxRecDepth 20000 in
set_option maxHeartbeats 2000000 in
theorem does_0 {w0 w : World} {d L M r RL RW RH : Nat} {D : DiskS} (h : Both w0 w d L M D r RL RW RH D []) (o : OpV) (ho : OpOk w0 o) (h1 : (o.what == 1) = false) (h2 : (o.what == 2) = false) (h3 : (o.what == 3) = false) (h4 : (o.what == 4) = false) (h5 : (o.what == 5) = false) (h6 : (o.what == 6) = false) (h7 : (o.what == 7) = false) (h8 : (o.what == 8) = false) :
    Calls Try.prog 21 #[.pointer (some ⟨d, 0, none⟩), .pointer (some ⟨r, 0, none⟩), o.val] w fun e w' => e = .returned (.bool true) ∧ Both w0 w' d L M D r RL RW RH D [] := by
  have hx := h.put o.cells
  have HX := Lib.hid hx
  have HO := Lib.hid ho
  clear h hx ho
  unfold OpV.cells at HX
  unfold OpV.val
  go_enter Try.func21, Try.ntmps21
  go_wp2_with fail
  go_ret
  exact ⟨rfl, HX.out.drop (by simp)⟩

set_option maxRecDepth 20000 in
set_option maxHeartbeats 2000000 in
theorem does_3 {w0 w : World} {d L M r RL RW RH : Nat} {D : DiskS} (h : Both w0 w d L M D r RL RW RH D []) (o : OpV) (ho : OpOk w0 o) (hw : o.what = 3) :
    Calls Try.prog 21 #[.pointer (some ⟨d, 0, none⟩), .pointer (some ⟨r, 0, none⟩), o.val] w fun e w' => e = .returned (.bool true) ∧ Both w0 w' d L M D r RL RW RH D [] := by
  have hx := h.put o.cells
  have HX := Lib.hid hx
  have HO := Lib.hid ho
  clear h hx ho
  unfold OpV.cells at HX
  unfold OpV.val
  obtain ⟨what, oi, text, ka, keep, kcap⟩ := o
  simp only at hw
  subst hw
  go_enter Try.func21, Try.ntmps21
  go_wp2_with (first | (go_at_call 17; refine (read_any HX.out.dk oi).mono ?_; rintro e w' ⟨rfl, hq1⟩; have HQ := Lib.hid ((HX.out.same hq1).put (.cells (secA (D.read oi).1) 33)); have e1 := cell_of_row w' w.heap.size 1 _ _ _ ((HX.out.same hq1).bx.got (List.mem_singleton.2 rfl)); simp only [List.getElem?_toArray, List.getElem?_cons_zero, List.getElem?_cons_succ] at e1; have xlt := block_lt_of_cell e1; clear hq1 HX) | (go_at_call 35; refine (refRead_any HQ.out.rf oi).mono ?_; rintro e w' ⟨rfl, hq1⟩; have HR := Lib.hid ((HQ.out.same hq1).put (.cells (secA (D.read oi).1) 33)); have HS1 := Lib.hid (HR.out.bx.got (List.mem_cons_of_mem _ List.mem_cons_self)); have HS2 := Lib.hid (HR.out.bx.got List.mem_cons_self); clear hq1 HQ) | ((with_reducible refine wc_alloc_arr secT ?_); go_frame; (try simp only [World.size_alloc])) | ((with_reducible apply wc_store_new secT); exact rfl; exact rfl; go_frame) | ((with_reducible apply wc_load_var secT HS1.out); exact rfl; go_frame) | ((with_reducible apply wc_load_var secT HS2.out); exact rfl; go_frame) | ((with_reducible apply wc_eql_arr secT); exact rfl; exact rfl; go_frame))
  go_ret
  exact ⟨by simp, HR.out.drop (by simp)⟩

set_option maxRecDepth 20000 in
set_option maxHeartbeats 2000000 in
theorem does_1 {w0 w : World} {d L M r RL RW RH : Nat} {D : DiskS} (h : Both w0 w d L M D r RL RW RH D []) (o : OpV) (ho : OpOk w0 o) (hw : o.what = 1) :
    Calls Try.prog 21 #[.pointer (some ⟨d, 0, none⟩), .pointer (some ⟨r, 0, none⟩), o.val] w fun e w' => e = .returned (.bool true) ∧ Both w0 w' d L M (D.write o.i o.sec).2 r RL RW RH (D.write o.i o.sec).2 [] := by
  have hx := h.put o.cells
  have HX := Lib.hid hx
  have HO := Lib.hid ho
  clear h hx ho
  unfold OpV.cells at HX
  unfold OpV.val
  obtain ⟨what, oi, text, ka, keep, kcap⟩ := o
  simp only at hw
  subst hw
  go_enter Try.func21, Try.ntmps21
  go_wp2_with fail
  have x1 := cell_of_row (_) w.heap.size 1 _ _ _ (HX.out.bx.got (List.mem_singleton.2 rfl))
  have x2 := cell_of_row (_) w.heap.size 2 _ _ _ (HX.out.bx.got (List.mem_singleton.2 rfl))
  simp only [List.getElem?_toArray, List.getElem?_cons_zero, List.getElem?_cons_succ] at x1 x2
  generalize w.alloc (.cells #[.int .i64 1, .int .i64 oi, .string text, .slice ka keep.length kcap] 30) = wX at *
  refine wp_region_inv 6 [.pointer (some ⟨d, 0, none⟩), .pointer (some ⟨w.heap.size, 1, none⟩), .int .i64 oi, .pointer (some ⟨w.heap.size, 2, none⟩), .string text, .agg (secA (Arr.text text.data.toList : Sec))] _
    (fun w' => Both w0 w' d L M D r RL RW RH D [(w.heap.size, .cells #[.int .i64 1, .int .i64 oi, .string text, .slice ka keep.length kcap] 30)] ∧ w'.cell? ⟨w.heap.size, 1, none⟩ = some (.int .i64 oi) ∧ w'.cell? ⟨w.heap.size, 2, none⟩ = some (.string text)) (by kernel_rfl) (by kernel_rfl) rfl
    (by simp only [putAll, List.take_succ_cons, List.take_zero]; go_frame; exact rfl) ⟨HX.out.same (Tch.refl _ _).drew, x1, x2⟩ ?_ ?_
  · simp only [List.take_succ_cons, List.take_zero]
    refine (stepsOk_cons (stepOk_value rfl fun W hW => ?_) (stepsOk_cons (stepOk_value rfl fun W hW => ?_) (stepsOk_cons (stepOk_value rfl fun W hW => ?_) (stepsOk_cons (stepOk_value rfl fun W hW => ?_) (stepsOk_cons (stepOk_value rfl fun W hW => ?_) (stepsOk_cons (stepOk_call (f := 13) (args := #[.string text]) rfl (fun W => ?_) (fun W hW => ?_)) stepsOk_nil))))))
    all_goals first | (obtain ⟨hW1, hW2, hW3⟩ := hW; clear hW1; go_simp; done) | go_simp | skip
    · refine (text_any _ _ HO.out.txt).mono ?_
      rintro e w' ⟨rfl, ht⟩
      exact ⟨rfl, hW.1.same ht, cell_old ht hW.2.1, cell_old ht hW.2.2⟩
  intro wHY hY
  have HY := Lib.hid hY.1
  clear hY x1 x2 HX
  simp only [List.drop_succ_cons, List.drop_zero]
  go_wp2_with (go_at_call 12; refine (write_any HY.out.dk oi (Arr.text text.data.toList : Sec)).mono ?_; rintro e w' ⟨rfl, hq1, hq2⟩; have HQ := Lib.hid (HY.out.stepD hq1 hq2 (by simp)); clear hq1 hq2 HY)
  have x1 := cell_of_row (_) w.heap.size 1 _ _ _ (HQ.out.bx.got (List.mem_singleton.2 rfl))
  have x2 := cell_of_row (_) w.heap.size 2 _ _ _ (HQ.out.bx.got (List.mem_singleton.2 rfl))
  simp only [List.getElem?_toArray, List.getElem?_cons_zero, List.getElem?_cons_succ] at x1 x2
  refine wp_region_one 8 7 [.int .i64 (D.write oi (Arr.text text.data.toList : Sec)).1, .pointer (some ⟨r, 0, none⟩), .pointer (some ⟨w.heap.size, 1, none⟩), .int .i64 oi, .pointer (some ⟨w.heap.size, 2, none⟩), .string text, .agg (secA (Arr.text text.data.toList : Sec)), .int .i64 (D.write oi (Arr.text text.data.toList : Sec)).1] _
    (fun b w' => Both w0 w' d L M (D.write oi (Arr.text text.data.toList : Sec)).2 r RL RW RH (cond b (D.write oi (Arr.text text.data.toList : Sec)).2 D) [(w.heap.size, .cells #[.int .i64 1, .int .i64 oi, .string text, .slice ka keep.length kcap] 30)] ∧ w'.cell? ⟨w.heap.size, 1, none⟩ = some (.int .i64 oi) ∧ w'.cell? ⟨w.heap.size, 2, none⟩ = some (.string text)) (by kernel_rfl) (by kernel_rfl) rfl
    (by simp only [putAll, List.take_succ_cons, List.take_zero]; go_frame; exact rfl) (by decide) ⟨HQ.out.same (Tch.refl _ _).drew, x1, x2⟩ ?_ ?_ ?_
  · intro b
    simp only [List.take_succ_cons, List.take_zero]
    refine (stepsBut_cons (stepOk_value rfl fun W hW => ?_) (stepsBut_cons (stepOk_value rfl fun W hW => ?_) (stepsBut_cons (stepOk_value rfl fun W hW => ?_) (stepsBut_cons (stepOk_value rfl fun W hW => ?_) (stepsBut_cons (stepOk_value rfl fun W hW => ?_) (stepsBut_cons (stepOk_value rfl fun W hW => ?_) (stepsBut_cons (stepOk_call (f := 13) (args := #[.string text]) rfl (fun W => ?_) (fun W hW => ?_)) (stepsBut_here stepsOk_nil))))))))
    all_goals first | (obtain ⟨hW1, hW2, hW3⟩ := hW; clear hW1; go_simp; done) | go_simp | skip
    · refine (text_any _ _ HO.out.txt).mono ?_
      rintro e w' ⟨rfl, ht⟩
      exact ⟨rfl, hW.1.same ht, cell_old ht hW.2.1, cell_old ht hW.2.2⟩
  · intro o W ho hW
    simp only [List.getElem?_cons_zero, List.getElem?_cons_succ, Option.some.injEq] at ho
    subst ho
    refine ⟨rfl, ?_⟩
    have HW := Lib.hid hW.1
    clear hW x1 x2 HQ
    go_simp
    refine (refWrite_any HW.out.rf oi (Arr.text text.data.toList : Sec)).mono ?_
    rintro e w' ⟨rfl, hq1, hq2⟩
    have hr := HW.out.stepR hq1 hq2 (by simp)
    have z1 := cell_of_row w' w.heap.size 1 _ _ _ (hr.bx.got (List.mem_singleton.2 rfl))
    have z2 := cell_of_row w' w.heap.size 2 _ _ _ (hr.bx.got (List.mem_singleton.2 rfl))
    exact ⟨_, rfl, rfl, hr, z1, z2⟩
  intro wZ hZ
  have HR := Lib.hid hZ.1
  clear hZ x1 x2 HQ
  simp only [List.drop_succ_cons, List.drop_zero]
  go_wp2_with fail
  go_ret
  exact ⟨by simp, HR.out.drop (by simp)⟩

set_option maxRecDepth 20000 in
set_option maxHeartbeats 2000000 in
theorem does_6 {w0 w : World} {d L M r RL RW RH : Nat} {D : DiskS} (h : Both w0 w d L M D r RL RW RH D []) (o : OpV) (ho : OpOk w0 o) (hw : o.what = 6) (hlen : o.keep.length ≤ 17592186043904) :
    Calls Try.prog 21 #[.pointer (some ⟨d, 0, none⟩), .pointer (some ⟨r, 0, none⟩), o.val] w fun e w' => e = .returned (.bool true) ∧ Both w0 w' d L M (D.on o.keep).2 r RL RW RH (D.on o.keep).2 [] := by
  have hx := h.put o.cells
  have HX := Lib.hid hx
  have HO := Lib.hid ho
  clear h hx ho
  unfold OpV.cells at HX
  unfold OpV.val
  obtain ⟨what, oi, text, ka, keep, kcap⟩ := o
  simp only at hw hlen
  subst hw
  have b1 : ((D.on keep).1 == (D.on keep).1) = true := beq_self_eq_true _
  go_enter Try.func21, Try.ntmps21
  go_wp2_with (first | (go_at_call 38; refine (twin_any ka kcap keep (HO.out.keep.touch HX.out.bx.tch (by simp)) hlen).mono ?_; rintro e w4 ⟨ht, g, c4, rfl, hg, hc, hi, h77⟩; have HQ := Lib.hid (HX.out.same ht); have hgs : ∀ k ∈ [d, L, M, r, RL, RW, RH], g ≠ k := (fun k hk e => by have := (HX.out.bx.own k hk).2; omega); have HG := Lib.hid hgs; have HI := Lib.hid hi; have H77 := Lib.hid h77; have e3 := cell_of_row w4 w.heap.size 3 _ _ _ (HQ.out.bx.got (List.mem_singleton.2 rfl)); simp only [List.getElem?_toArray, List.getElem?_cons_zero, List.getElem?_cons_succ] at e3; clear ht hg hi h77 hgs HX) | (go_at_call 18; refine (on_any HQ.out.dk (some ⟨g, 0, none⟩) c4 keep HI.out (by omega) (fun x _ hx => by cases hx; exact ⟨HG.out d (by simp), HG.out L (by simp), HG.out M (by simp)⟩)).mono ?_; rintro e w5 ⟨rfl, hq1, hq2⟩; have HR := Lib.hid (HQ.out.stepD hq1 hq2 (by simp)); have HI5 := Lib.hid (HI.out.touch hq2 (fun b hb x hx => by cases hx; exact HG.out b (by simp at hb ⊢; omega))); have H775 := Lib.hid ((World.cell?_of_block (a := ⟨g, keep.length, none⟩) (hq2.block g (block_lt_of_cell H77.out) (fun hm => HG.out g (by simp at hm ⊢; omega) rfl))).trans H77.out); clear e3; have e3 := cell_of_row w5 w.heap.size 3 _ _ _ (HR.out.bx.got (List.mem_singleton.2 rfl)); simp only [List.getElem?_toArray, List.getElem?_cons_zero, List.getElem?_cons_succ] at e3; clear hq1 hq2 HQ HI H77) | (go_at_call 39; refine (refOn_any HR.out.rf ka kcap keep (HO.out.keep.touch HR.out.bx.tch (by simp)) (by omega) (HR.out.offR HO.out)).mono ?_; rintro e w6 ⟨rfl, hq1, hq2⟩; have HS := Lib.hid (HR.out.stepR hq1 hq2 (by simp)); have HI6 := Lib.hid (HI5.out.touch hq2 (fun b hb x hx => by cases hx; exact HG.out b (by simp at hb ⊢; omega))); have H776 := Lib.hid ((World.cell?_of_block (a := ⟨g, keep.length, none⟩) (hq2.block g (block_lt_of_cell H775.out) (fun hm => HG.out g (by simp at hm ⊢; omega) rfl))).trans H775.out); clear e3; have e3 := cell_of_row w6 w.heap.size 3 _ _ _ (HS.out.bx.got (List.mem_singleton.2 rfl)); simp only [List.getElem?_toArray, List.getElem?_cons_zero, List.getElem?_cons_succ] at e3; clear hq1 hq2 HR HI5 H775) | (go_at_call 27; refine (eqInts_any (l := keep) (m := keep) (b := ka) HI6.out (HO.out.keep.touch HS.out.bx.tch (by simp)) (by omega) (by omega)).mono ?_; rintro e w7 ⟨rfl, hq1⟩; rw [decide_eq_true rfl]; have HT := Lib.hid (HS.out.same hq1); have h777 := cell_old hq1 H776.out; clear e3 hq1 HS HI6 H776))
  go_ret
  exact ⟨by simp, HT.out.drop (by simp)⟩
end Go.Proofs.Ytpfgjopiddopbaa
