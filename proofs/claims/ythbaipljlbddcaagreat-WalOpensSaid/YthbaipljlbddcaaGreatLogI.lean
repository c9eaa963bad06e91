/-
  A record is written: the closures of package wal's write.
-/
import Derived.Test.YthbaipljlbddcaaGreatLogH
namespace Go.Cib
open Go Go.RowKit
/-- Images in memory, one behind the other. -/
def ImgsAt (w : World) (a : Option Addr) (l : List (Int × Page)) : Prop := ∀ (i : Nat) (q : Int × Page), l[i]? = some q → ∃ (b : Nat) (c : Array Value) (e : TypeId) (fr : Nat × Nat), a = some ⟨b, 0, none⟩ ∧ w.heap[b]? = some (.cells c e fr) ∧ i * 481 + 481 ≤ c.size ∧ c.extract (i * 481) (i * 481 + 481) = imageA q.1 q.2
theorem ImgsAt.touch {w w' : World} {a : Option Addr} {l : List (Int × Page)} {X : List Nat} (h : ImgsAt w a l) (ht : Tch X w w') (hX : ∀ b, a = some ⟨b, 0, none⟩ → b ∉ X) : ImgsAt w' a l := by
  intro i q hi
  obtain ⟨b, c, e, fr, h1, h2, h3, h4⟩ := h i q hi
  exact ⟨b, c, e, fr, h1, ht.heap h2 (hX b h1), h3, h4⟩
theorem ImgsAt.later {w w' : World} {a : Option Addr} {l : List (Int × Page)} (h : ImgsAt w a l) (ht : Tch [] w w') : ImgsAt w' a l := h.touch ht (by simp)
section
variable {P : Program} {T e : TypeId} {ops : Array Oper} {rest : List Oper} {a : Act} {w : World} {Q : Exit → Act → World → Prop} {dst : Option Tmp} {ty : TypeId} {pos : String} {af : Array Edge} {x y : Operand}
/-- A whole image is read out of a list. -/
theorem wc_load_img (hT : AggT P T 481) {l : List (Int × Page)} {i : Nat} {q : Int × Page} {b : Nat} (hb : ImgsAt w (some ⟨b, 0, none⟩) l) (hi : l[i]? = some q) (hx : a.eval x = .pointer (some ⟨b, i * 481, none⟩))
    (h : wpList P ops Q rest (a.put dst (.agg (imageA q.1 q.2))) w) : wpList P ops Q (⟨dst, .load T x, ty, pos, af, none⟩ :: rest) a w := by
  obtain ⟨b', c, e', fr, h1, h2, h3, h4⟩ := hb i q hi
  cases h1
  refine wc_value rfl ?_ h
  rw [exec_load_agg hT rfl hx h2 h3, h4]
/-- The page of an image in a variable. -/
theorem wc_load_imgpage (hT : AggT P T 480) {n : Int} {p : Page} {b : Nat} {e' : TypeId} {fr : Nat × Nat} (hb : w.heap[b]? = some (.cells (imageA n p) e' fr)) (hx : a.eval x = .pointer (some ⟨b, 1, none⟩))
    (h : wpList P ops Q rest (a.put dst (.agg (secA p))) w) : wpList P ops Q (⟨dst, .load T x, ty, pos, af, none⟩ :: rest) a w := by
  refine wc_value rfl ?_ h
  rw [exec_load_agg hT rfl hx hb (by rw [size_imageA]; omega)]
  congr 2
  have : (imageA n p).extract 1 (1 + 480) = secA p := by
    apply Array.toList_inj.1
    rw [Array.toList_extract, List.extract_eq_take_drop]
    have h1 : (imageA n p).toList = .int .i64 n :: (secA p).toList := by simp [imageA]
    rw [h1, List.drop_succ_cons, List.drop_zero, List.take_of_length_le (by rw [Array.length_toList, size_secA]; omega)]
  rw [this]
end
namespace LogS
def putStep (f : FrameV) (s : LogS × Nat) : Int × (LogS × Nat) := ((s.1.disk.write (s.2 : Int) (s.1.rec_ f).sector).1, ({ s.1 with disk := (s.1.disk.write (s.2 : Int) (s.1.rec_ f).sector).2 }, s.2 + 1))
def flush2 (s : LogS × Nat) : Int × (LogS × Nat) := (s.1.disk.flush.1, ({ s.1 with disk := s.1.disk.flush.2 }, s.2))
theorem runS_one {σ : Type} (f : σ → Int × σ) (s : σ) : runS s [f] = f s := by
  unfold runS
  split
  · rename_i h; exact Prod.ext h.symm rfl
  · rfl
theorem runS_put (rest : List (LogS × Nat → Int × (LogS × Nat))) : ∀ (fs : List FrameV) (S : LogS) (pl : Nat),
    ((S.disk.acts (S.putsA pl fs)).1 = 0 → runS (S, pl) (fs.map putStep ++ rest) = runS ({ S with disk := (S.disk.acts (S.putsA pl fs)).2 }, pl + fs.length) rest) ∧
    ((S.disk.acts (S.putsA pl fs)).1 ≠ 0 → (runS (S, pl) (fs.map putStep ++ rest)).1 = (S.disk.acts (S.putsA pl fs)).1 ∧ (runS (S, pl) (fs.map putStep ++ rest)).2.1 = { S with disk := (S.disk.acts (S.putsA pl fs)).2 })
  | [], S, pl => ⟨fun _ => rfl, fun h => absurd rfl h⟩
  | f :: fs, S, pl => by
    have ih := runS_put rest fs { S with disk := (S.disk.write (pl : Int) (S.rec_ f).sector).2 } (pl + 1)
    have e1 : (S.disk.acts (S.putsA pl (f :: fs))) = if (S.disk.write (pl : Int) (S.rec_ f).sector).1 = 0 then (S.disk.write (pl : Int) (S.rec_ f).sector).2.acts (S.putsA (pl + 1) fs) else S.disk.write (pl : Int) (S.rec_ f).sector := rfl
    have e2 : runS (S, pl) ((f :: fs).map putStep ++ rest) = if (S.disk.write (pl : Int) (S.rec_ f).sector).1 = 0 then runS ({ S with disk := (S.disk.write (pl : Int) (S.rec_ f).sector).2 }, pl + 1) (fs.map putStep ++ rest) else putStep f (S, pl) := rfl
    have e3 : ∀ (D : DiskS) (q : Nat) (gs : List FrameV), ({ S with disk := D } : LogS).putsA q gs = S.putsA q gs := by
      intro D q gs
      induction gs generalizing q with
      | nil => rfl
      | cons x xs ih2 => unfold putsA; rw [ih2]; rfl
    rw [e3] at ih
    rw [e1, e2]
    by_cases h : (S.disk.write (pl : Int) (S.rec_ f).sector).1 = 0
    · rw [if_pos h, if_pos h]
      refine ⟨fun h2 => ?_, fun h2 => ih.2 h2⟩
      rw [ih.1 h2, List.length_cons, show pl + 1 + fs.length = pl + (fs.length + 1) by omega]
    · rw [if_neg h, if_neg h]
      exact ⟨fun h2 => absurd h2 h, fun _ => ⟨rfl, rfl⟩⟩
theorem putsA_disk (S : LogS) (D : DiskS) (q : Nat) (gs : List FrameV) : ({ S with disk := D } : LogS).putsA q gs = S.putsA q gs := by
  induction gs generalizing q with
  | nil => rfl
  | cons x xs ih2 => unfold putsA; rw [ih2]; rfl
/-- The steps of a record are what it asks of the disk. -/
theorem runS_write (S : LogS) (w : List (Nat × Page)) (fs : List FrameV) (hfs : fs = recFrames w) :
    (runS (S, 2 + S.used) (fs.map putStep ++ [flush2, putStep (frame4 w.length), flush2])).1 = (S.disk.acts (S.writeAs w)).1 ∧
      (runS (S, 2 + S.used) (fs.map putStep ++ [flush2, putStep (frame4 w.length), flush2])).2.1 = { S with disk := (S.disk.acts (S.writeAs w)).2 } := by
  subst hfs
  obtain ⟨h1, h2⟩ := runS_put [flush2, putStep (frame4 w.length), flush2] (recFrames w) S (2 + S.used)
  have hlen : (recFrames w).length = w.length + 1 := by simp [recFrames, imgFrames]
  unfold writeAs
  rw [DiskS.acts_append]
  by_cases a1 : (S.disk.acts (S.putsA (2 + S.used) (recFrames w))).1 = 0
  · rw [h1 a1, if_pos a1, hlen, show 2 + S.used + (w.length + 1) = 3 + S.used + w.length by omega]
    generalize (S.disk.acts (S.putsA (2 + S.used) (recFrames w))).2 = D1
    rw [DiskS.acts_cons]
    have e : ∀ r, runS ({ S with disk := D1 }, 3 + S.used + w.length) (flush2 :: r) = if D1.flush.1 = 0 then runS ({ S with disk := D1.flush.2 }, 3 + S.used + w.length) r else (D1.flush.1, ({ S with disk := D1.flush.2 }, 3 + S.used + w.length)) := fun r => rfl
    rw [e]
    by_cases a2 : D1.flush.1 = 0
    · rw [if_pos a2, if_pos (show (D1.act .flush).1 = 0 from a2)]
      obtain ⟨h3, h4⟩ := runS_put [flush2] [frame4 w.length] { S with disk := D1.flush.2 } (3 + S.used + w.length)
      rw [putsA_disk] at h3 h4
      rw [DiskS.acts_append]
      show (runS ({ S with disk := D1.flush.2 }, 3 + S.used + w.length) ([frame4 w.length].map putStep ++ [flush2])).1 = _ ∧ _
      by_cases a3 : (D1.flush.2.acts (S.putsA (3 + S.used + w.length) [frame4 w.length])).1 = 0
      · have e4 := h3 a3
        rw [if_pos (show ((D1.act .flush).2.acts (S.putsA (3 + S.used + w.length) [frame4 w.length])).1 = 0 from a3), DiskS.acts_one]
        show (runS ({ S with disk := D1.flush.2 }, 3 + S.used + w.length) ([frame4 w.length].map putStep ++ [flush2])).1 = _ ∧ (runS ({ S with disk := D1.flush.2 }, 3 + S.used + w.length) ([frame4 w.length].map putStep ++ [flush2])).2.1 = _
        rw [e4, runS_one]
        exact ⟨rfl, rfl⟩
      · have e4 := h4 a3
        rw [if_neg (show ¬ ((D1.act .flush).2.acts (S.putsA (3 + S.used + w.length) [frame4 w.length])).1 = 0 from a3)]
        exact e4
    · rw [if_neg a2, if_neg (show ¬ (D1.act .flush).1 = 0 from a2)]
      exact ⟨rfl, rfl⟩
  · have e4 := h2 a1
    rw [if_neg a1]
    exact e4
end LogS
end Go.Cib
namespace Go.Proofs.YthbaipljlbddcaaGreat
open Go.RowKit Go.Cib

set_option maxRecDepth 20000 in
set_option maxHeartbeats 1000000 in
theorem put_any {w : World} {g d L M V Bl Bp pl : Nat} {S : LogS} (h : LogAt w g d L M V S) (cl : w.cell? ⟨Bl, 0, none⟩ = some (.pointer (some ⟨g, 0, none⟩))) (cp : w.heap[Bp]? = some (.cells #[.int .i64 pl] 3)) (hBp : Bp ∉ [g, d, L, M, V, Bl]) (hpl : pl ≤ 100000)
    (hg : S.gen < 18446744073709551616) (hr : S.records < 18446744073709551616) (f : FrameV) (hf : f.Ok) :
    Calls Tryz.prog 75 #[.agg (frameA f), .pointer (some ⟨Bl, 0, none⟩), .pointer (some ⟨Bp, 0, none⟩)] w fun e w' =>
      e = .returned (.int .i64 (LogS.putStep f (S, pl)).1) ∧ LogAt w' g d L M V (LogS.putStep f (S, pl)).2.1 ∧ w'.heap[Bp]? = some (.cells #[.int .i64 (pl + 1 : Nat)] 3) ∧ Tch [Bp, d, L, M] w w' := by
  obtain ⟨w1, hw1⟩ : ∃ w1, w.alloc (.cells (frameA f) 105) = w1 := ⟨_, rfl⟩
  have t1 : Tch [] w w1 := by rw [← hw1]; exact (Tch.refl _ _).alloc _
  have hF : w1.heap[w.heap.size]? = some (.cells (frameA f) 105) := by rw [← hw1]; exact heap_alloc_new _ _
  have h1 := h.touch t1 (by simp) (by simp) (by simp) (by simp) (by simp)
  have cl1 := cell_old t1 cl
  have c3 := h1.cell 3 rfl
  have c5 := h1.cell 5 rfl
  have f1 := frozen_of_row w1 w.heap.size 1 _ _ hF
  have f2 := frozen_of_row w1 w.heap.size 2 _ _ hF
  have hBl : Bl < w.heap.size := block_lt_of_cell cl
  have hgw : g < w.heap.size := lt_of_heap h.hg
  obtain ⟨F, hFe⟩ : ∃ F, w.heap.size = F := ⟨_, rfl⟩
  have hFold : F ∉ [g, d, L, M, V, Bl, Bp] := by
    have a2 := lt_of_heap h.hD.hd
    have a3 := lt_of_heap h.hD.hL
    have a4 := h.hD.hM.lt
    have a5 := h.hV.lt
    have a6 := lt_of_heap cp
    simp; omega
  simp only [List.mem_cons, List.not_mem_nil, or_false, not_or] at hFold hBp
  have HW1 := Lib.hid hw1
  have HFE := Lib.hid hFe
  rw [hFe] at hF f1 f2 hBl hgw
  have k1 : (frameA f)[1]? = some (.int .u64 f.gen) := by unfold frameA; rw [Array.getElem?_append_left (by simp)]; rfl
  have k2 : (frameA f)[2]? = some (.int .u64 f.num) := by unfold frameA; rw [Array.getElem?_append_left (by simp)]; rfl
  have cF1 : w1.cell? ⟨F, 1, none⟩ = some (.int .u64 f.gen) := by rw [cell_of_row w1 F 1 _ _ _ hF]; exact k1
  obtain ⟨w2, hw2⟩ : ∃ w2, w1.setCell ⟨F, 1, none⟩ (.int .u64 S.gen) = w2 := ⟨_, rfl⟩
  have t2 : Tch [F] w1 w2 := by rw [← hw2]; exact (Tch.refl _ _).setCell (by simp) _
  have hF2 : w2.heap[F]? = some (.cells (frameA { f with gen := S.gen }) 105) := by rw [← hw2, heap_setCell_cells hF, frame_set1]
  have h2 := h1.touch t2 (by simp; omega) (by simp; omega) (by simp; omega) (by simp; omega) (by simp; omega)
  have cl2 := cell_touch t2 cl1 (by simp; omega)
  have c32 := h2.cell 3 rfl
  have c52 := h2.cell 5 rfl
  have H1 := Lib.hid h1
  have H2 := Lib.hid h2
  have T1 := Lib.hid t1
  have T2 := Lib.hid t2
  have F2 := Lib.hid hF2
  have CP := Lib.hid cp
  have hFF := hFold
  clear hw1 t1 h h1 hFe cl k1 k2 h2 t2 hF2 cp
  go_enter Tryz.func75, Tryz.ntmps75
  go_upto_region 1 with ((with_reducible refine wc_box_agg ?_ ?_); exact rfl; go_frame)
  rw [HW1.out, HFE.out]
  refine wp_region_one 10 9 [.pointer (some ⟨g, 0, none⟩), .pointer (some ⟨g, 0, none⟩), .pointer (some ⟨g, 3, none⟩), .int .u64 S.gen, .pointer (some ⟨g, 0, none⟩), .pointer (some ⟨g, 0, none⟩), .pointer (some ⟨g, 5, none⟩), .int .u64 S.records, .pointer (some ⟨F, 1, none⟩), undef] _ (fun b w' => ∃ n, w' = World.drewN (cond b w2 w1) n) (by kernel_rfl) (by kernel_rfl) rfl
    (by simp only [putAll, List.take_succ_cons, List.take_zero]; go_frame; exact rfl) (by decide) ⟨1, rfl⟩ ?_ ?_ ?_
  · intro b
    have clb : (cond b w2 w1).cell? ⟨Bl, 0, none⟩ = some (.pointer (some ⟨g, 0, none⟩)) := by cases b; exact cl1; exact cl2
    have c3b : (cond b w2 w1).cell? ⟨g, 3, none⟩ = some (.int .u64 S.gen) := by cases b; exact c3; exact c32
    have c5b : (cond b w2 w1).cell? ⟨g, 5, none⟩ = some (.int .u64 S.records) := by cases b; exact c5; exact c52
    simp only [List.take_succ_cons, List.take_zero]
    refine stepsBut_cons (stepOk_value rfl fun W hW => ?_) (stepsBut_cons (stepOk_value rfl fun W hW => ?_) (stepsBut_cons (stepOk_value rfl fun W hW => ?_) (stepsBut_cons (stepOk_value rfl fun W hW => ?_) (stepsBut_cons (stepOk_value rfl fun W hW => ?_) (stepsBut_cons (stepOk_value rfl fun W hW => ?_) (stepsBut_cons (stepOk_value rfl fun W hW => ?_) (stepsBut_cons (stepOk_value rfl fun W hW => ?_) (stepsBut_cons (stepOk_value rfl fun W hW => ?_) (stepsBut_here stepsOk_nil)))))))))
    all_goals (obtain ⟨n, rfl⟩ := hW; go_simp)
  · intro o W ho hW
    simp only [List.getElem?_cons_zero, List.getElem?_cons_succ, Option.some.injEq] at ho
    subst ho
    obtain ⟨n, rfl⟩ := hW
    refine ⟨rfl, ?_⟩
    simp only [cond_false]
    go_simp
    exact ⟨rfl, n, by rw [← hw2]; rfl⟩
  intro wZ hZ
  obtain ⟨n, rfl⟩ := hZ
  simp only [cond_true, List.drop_succ_cons, List.drop_zero]
  obtain ⟨wZ, hwZ⟩ : ∃ wZ, w2.drewN n = wZ := ⟨_, rfl⟩
  have tZ : Tch [] w2 wZ := by rw [← hwZ]; exact tch_drewN w2 n
  have hFZ := tZ.heap F2.out (by simp)
  have fZ2 := frozen_of_row wZ F 2 _ _ hFZ
  have cFZ2 : wZ.cell? ⟨F, 2, none⟩ = some (.int .u64 f.num) := by
    rw [cell_of_row wZ F 2 _ _ _ hFZ]
    unfold frameA; rw [Array.getElem?_append_left (by simp)]; rfl
  have hpZ := (((T1.out.mono (S' := [F]) (by simp)).trans T2.out).drop (S' := []) (by have := HFE.out; simp; omega)).heap CP.out (by simp)
  have hpZ := tZ.heap hpZ (by simp)
  have cpZ : wZ.cell? ⟨Bp, 0, none⟩ = some (.int .i64 pl) := by rw [cell_of_row wZ Bp 0 _ _ _ hpZ]; rfl
  have fpZ := frozen_of_row wZ Bp 0 _ _ hpZ
  have hZ := H2.out.touch tZ (by simp) (by simp) (by simp) (by simp) (by simp)
  have clZ := cell_old tZ cl2
  obtain ⟨w3, hw3⟩ : ∃ w3, wZ.setCell ⟨F, 2, none⟩ (.int .u64 S.records) = w3 := ⟨_, rfl⟩
  have t3 : Tch [F] wZ w3 := by rw [← hw3]; exact (Tch.refl _ _).setCell (by simp) _
  have hF3 : w3.heap[F]? = some (.cells (frameA (S.rec_ f)) 105) := by rw [← hw3, heap_setCell_cells hFZ, frame_set2]; rfl
  have hp3 := t3.heap hpZ (by simp; omega)
  have cp3 : w3.cell? ⟨Bp, 0, none⟩ = some (.int .i64 pl) := by rw [cell_of_row w3 Bp 0 _ _ _ hp3]; rfl
  have fp3 := frozen_of_row w3 Bp 0 _ _ hp3
  have h3 := hZ.touch t3 (by simp; omega) (by simp; omega) (by simp; omega) (by simp; omega) (by simp; omega)
  have cl3 := cell_touch t3 clZ (by simp; omega)
  obtain ⟨p1, hp1⟩ : ∃ p1 : Nat, pl + 1 = p1 := ⟨_, rfl⟩
  have Wp : (pl : Int) + 1 = p1 := by omega
  have Wm : (p1 : Int) - 1 = pl := by omega
  obtain ⟨w4, hw4⟩ : ∃ w4, w3.setCell ⟨Bp, 0, none⟩ (.int .i64 ((pl : Int) + 1)) = w4 := ⟨_, rfl⟩
  have t4 : Tch [Bp] w3 w4 := by rw [← hw4]; exact (Tch.refl _ _).setCell (by simp) _
  have hF4 := t4.heap hF3 (by simp; omega)
  have hp4 : w4.heap[Bp]? = some (.cells #[.int .i64 p1] 3) := by rw [← hw4, Wp, heap_setCell_cells hp3]; rfl
  have h4 := h3.touch t4 (by simp; omega) (by simp; omega) (by simp; omega) (by simp; omega) (by simp; omega)
  have cl4 := cell_touch t4 cl3 (by simp; omega)
  have HWZ := Lib.hid hwZ
  have HW3 := Lib.hid hw3
  have HW4 := Lib.hid hw4
  have HP1 := Lib.hid hp1
  have TT : Hid (Tch [F, Bp] w1 w4) := (((T2.out.mono (by simp)).trans (tZ.mono (by simp))).trans (t3.mono (by simp))).trans (t4.mono (by simp))
  have H4 := Lib.hid h4
  have F4 := Lib.hid hF4
  have P4 := Lib.hid hp4
  rw [hwZ]
  have cpw : w3.cell? ⟨Bp, 0, none⟩ = some (.int .i64 pl) := cp3
  clear Wp hwZ hw3 hw4 tZ hFZ hpZ t3 hF3 hp3 t4 hF4 hp4 h4 hZ h3 hp1 F2 T2 H2
  go_upto_region 2 with fail
  rw [HW3.out]
  go_upto_region 3 with fail
  rw [HW4.out]
  have C0 : Hid (∀ w', Tch [] w4 w' → w'.cell? ⟨g, 0, none⟩ = some (.pointer (some ⟨d, 0, none⟩))) := fun w' h => cell_old h (H4.out.cell 0 rfl)
  have CL : Hid (∀ w', Tch [] w4 w' → w'.cell? ⟨Bl, 0, none⟩ = some (.pointer (some ⟨g, 0, none⟩))) := fun w' h => cell_old h cl4
  have CPP : Hid (∀ w', Tch [] w4 w' → w'.cell? ⟨Bp, 0, none⟩ = some (.int .i64 p1)) := fun w' h => cell_old h (by rw [cell_of_row w4 Bp 0 _ _ _ P4.out]; rfl)
  have CB : Hid (∀ w', Tch [] w4 w' → w'.heap[F]? = some (.cells (frameA (S.rec_ f)) 105)) := fun w' h => h.heap F4.out (by simp)
  have hok : (S.rec_ f).Ok := ⟨hg, hr, hf.idx⟩
  have CS : Hid (∀ w', Tch [] w4 w' → Calls Tryz.prog 70 #[.agg (frameA (S.rec_ f))] w' fun e w'' => e = .returned (.agg (secA (S.rec_ f).sector)) ∧ Tch [] w4 w'') := fun w' h => (sector_any (S.rec_ f) hok w').mono (by rintro e w'' ⟨h1, h2⟩; exact ⟨h1, h.trans h2⟩)
  refine wp_region_walk (C := fun w' => Tch [] w4 w') 8 (by kernel_rfl) (by kernel_rfl) ((Tch.refl _ _).drew) ?_
  simp only [List.take_succ_cons, List.take_zero, List.drop_succ_cons, List.drop_zero]
  (repeat (first
      | ((with_reducible refine wq_load_cell (by kernel_rfl) CL.out ?_ ?_ ?_); exact rfl; exact rfl; go_frame)
      | ((with_reducible refine wq_load_cell (by kernel_rfl) C0.out ?_ ?_ ?_); exact rfl; exact rfl; go_frame)
      | ((with_reducible refine wq_load_cell (by kernel_rfl) CPP.out ?_ ?_ ?_); exact rfl; exact rfl; go_frame)
      | ((with_reducible refine wq_load_frame frameTT CB.out ?_ ?_ ?_); exact rfl; exact rfl; go_frame)
      | ((with_reducible refine wq_fn cf_sector2 ?_ ?_ CS.out ?_); exact rfl; exact rfl; go_frame)
      | go_big_quiet_skip | (go_big_quiet_want; go_big_quiet_op; first | go_big_quiet_on | (refine ⟨_, fun _ _ => rfl, ?_⟩; go_big_quiet_on))))
  refine wpQuiet_nil ?_
  intro w5 ht5
  have H5 := Lib.hid (H4.out.touch ht5 (by simp) (by simp) (by simp) (by simp) (by simp))
  have P5 := Lib.hid (ht5.heap P4.out (by simp))
  have T5 := Lib.hid (TT.out.trans (ht5.mono (by simp)))
  clear ht5 C0 CL CPP CB CS
  go_wp2_with (go_at_call 41; refine (write_any H5.out.hD _ _).mono ?_; rintro e w' ⟨rfl, hq1, hq2⟩; have H6 := Lib.hid (H5.out.disk hq1 hq2); have P6 := Lib.hid (hq2.heap P5.out (by simp; omega)); have T6 := Lib.hid ((T5.out.mono (S' := [F, Bp, d, L, M]) (by simp)).trans (hq2.mono (by simp))); clear hq1 hq2)
  go_ret
  refine ⟨rfl, H6.out, ?_, ?_⟩
  · rw [HP1.out]; exact P6.out
  · exact ((T1.out.mono (by simp)).trans T6.out).drop (by intro k hk; have := HFE.out; simp at hk ⊢; omega)
end Go.Proofs.YthbaipljlbddcaaGreat
