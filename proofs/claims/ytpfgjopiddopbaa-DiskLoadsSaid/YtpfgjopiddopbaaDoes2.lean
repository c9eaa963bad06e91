/-
  'does', where the sectors and the pending numbers are asked for.
-/
import Derived.Test.YtpfgjopiddopbaaDoes
import Derived.Test.YtpfgjopiddopbaaRegion4
namespace Go.Cib
open Go Go.RowKit
theorem ev_tmp {fu : Act} {t : Nat} {v : Value} (h : fu.eval (.tmp t) = v) : fu.tmps[t]?.getD undef = v := by rw [← Array.getD_eq_getD_getElem?]; exact h
theorem wanted_false {o : Oper} {y : Nat → Option Bool} (h : Region.wanted o y = false) (hg : o.guard = none) : False := by rw [wanted_none hg] at h; cases h
theorem step_plain {o : Oper} {y : Nat → Option Bool} {A C : Prop} (hg : o.guard = none) (h : A) : (Region.wanted o y = true → A) ∧ (Region.wanted o y = false → C) := ⟨fun _ => h, fun hc => (wanted_false hc hg).elim⟩
end Go.Cib
namespace Go.Proofs.Ytpfgjopiddopbaa
open Go.RowKit Go.Cib

def SecsV (w : World) (v : Value) (l : List Sec) : Prop := ∃ k cap, v = .slice (some ⟨k, 0, none⟩) l.length cap ∧ SecsIn w k l
theorem SecsV.later {w w' : World} {v : Value} {l : List Sec} (h : SecsV w v l) (ht : Tch [] w w') : SecsV w' v l := by
  obtain ⟨k, cap, h1, h2⟩ := h
  exact ⟨k, cap, h1, h2.touch ht (by simp)⟩
def K8 (d r RL : Nat) (D : DiskS) : Nat → Value → World → Prop
  | 0, v, _ => v = .pointer (some ⟨d, 0, none⟩)
  | 1, v, w => SecsV w v D.lasts
  | 5, v, _ => v = .slice (some ⟨RL, 0, none⟩) D.lasts.length D.lasts.length
  | 6, v, _ => v = .bool true
  | _, v, _ => v = .pointer (some ⟨r, 0, none⟩)

set_option maxRecDepth 20000 in
set_option maxHeartbeats 2000000 in
theorem does_8 {w0 w : World} {d L M r RL RW RH : Nat} {D : DiskS} (h : Both w0 w d L M D r RL RW RH D []) (o : OpV) (hw : o.what = 8) :
    Calls Try.prog 21 #[.pointer (some ⟨d, 0, none⟩), .pointer (some ⟨r, 0, none⟩), o.val] w fun e w' => e = .returned (.bool true) ∧ Both w0 w' d L M D r RL RW RH D [] := by
  have hx := h.put o.cells
  have HX := Lib.hid hx
  clear h hx
  unfold OpV.cells at HX
  unfold OpV.val
  obtain ⟨what, oi, text, ka, keep, kcap⟩ := o
  simp only at hw
  subst hw
  go_enter Try.func21, Try.ntmps21
  go_wp2_with fail
  generalize w.alloc (.cells #[.int .i64 8, .int .i64 oi, .string text, .slice ka keep.length kcap] 30) = wX at *
  refine wp_region_vals 7 7 (fun w' => Both w0 w' d L M D r RL RW RH D []) (K8 d r RL D) (by kernel_rfl) (by kernel_rfl) (by kernel_rfl) (Nat.le_refl _) ((HX.out.same (Tch.refl _ _).drew).drop (by simp)) ?_ ?_ ?_
  · intro w1 w2 _ _ ht i v hk
    unfold K8 at hk ⊢
    split at hk
    · exact hk
    · exact hk.later ht
    · exact hk
    · exact hk
    · exact hk
  · intro i o hi ho fu w' hC hold hdep
    have hi7 : i = 0 ∨ i = 1 ∨ i = 2 ∨ i = 3 ∨ i = 4 ∨ i = 5 ∨ i = 6 := by omega
    rcases hi7 with rfl | rfl | rfl | rfl | rfl | rfl | rfl
    all_goals (simp only [List.getElem?_cons_zero, List.getElem?_cons_succ, Option.some.injEq] at ho; subst ho; apply step_plain rfl)
    · have hx := hold 0 (by show _ < 176; omega) (by kernel_rfl)
      exact stpR_ok (exec_move hx) ⟨rfl, hC, Tch.refl _ _⟩
    · have hx : fu.tmps[169]?.getD undef = .pointer (some ⟨d, 0, none⟩) := ev_tmp (hdep 0 169 (by show _ < 176; omega) (by kernel_rfl) (by kernel_rfl))
      go_simp
      refine (sectors_any hC.dk).mono ?_
      rintro e w4 ⟨hq1, k1, ca1, rfl, hq2, hq3⟩
      exact ⟨_, rfl, ⟨k1, ca1, rfl, hq3⟩, hC.same hq1, hq1⟩
    · have hx := hold 1 (by show _ < 176; omega) (by kernel_rfl)
      exact stpR_ok (exec_move hx) ⟨rfl, hC, Tch.refl _ _⟩
    · have hx : fu.tmps[171]?.getD undef = .pointer (some ⟨r, 0, none⟩) := ev_tmp (hdep 2 171 (by show _ < 176; omega) (by kernel_rfl) (by kernel_rfl))
      go_simp
      exact ⟨rfl, Tch.refl _ _⟩
    · have hx : fu.tmps[172]?.getD undef = .pointer (some ⟨r, 0, none⟩) := ev_tmp (hdep 3 172 (by show _ < 176; omega) (by kernel_rfl) (by kernel_rfl))
      go_simp
      exact ⟨rfl, Tch.refl _ _⟩
    · have hx : fu.tmps[173]?.getD undef = .pointer (some ⟨r, 0, none⟩) := ev_tmp (hdep 4 173 (by show _ < 176; omega) (by kernel_rfl) (by kernel_rfl))
      have c0 := cell_of_row w' r 0 _ _ _ hC.rf.hr
      simp only [List.getElem?_toArray, List.getElem?_cons_zero] at c0
      go_simp
      exact ⟨rfl, Tch.refl _ _⟩
    · have hx : SecsV w' (fu.eval (.tmp 170)) D.lasts := hdep 1 170 (by show _ < 176; omega) (by kernel_rfl) (by kernel_rfl)
      have hy : fu.tmps[174]?.getD undef = .slice (some ⟨RL, 0, none⟩) D.lasts.length D.lasts.length := ev_tmp (hdep 5 174 (by show _ < 176; omega) (by kernel_rfl) (by kernel_rfl))
      obtain ⟨k1, ca1, hx1, hx2⟩ := hx
      have hx1 := ev_tmp hx1
      have hs := hC.dk.ok.size
      go_simp
      refine (eqSecs_any hx2 (secsIn_whole hC.rf.hL) (by omega) (by omega)).mono ?_
      rintro e w4 ⟨rfl, hq1⟩
      rw [decide_eq_true rfl]
      exact ⟨_, rfl, rfl, hC.same hq1, hq1⟩
  · intro vs wv hC hK
    refine ⟨fun w' => Both w0 w' d L M D r RL RW RH D [], hC, ?_⟩
    have h6 : vs 6 = .bool true := hK 6 (by omega)
    have H6 := Lib.hid h6
    refine wpQuiet_nil ?_
    intro w'' hC''
    have HC := Lib.hid hC''
    clear hC hK hC'' h6
    unfold fullOf
    rw [show (List.range 7).map vs = [vs 0, vs 1, vs 2, vs 3, vs 4, vs 5, vs 6] from rfl, H6.out]
    generalize vs 0 = v0
    generalize vs 1 = v1
    generalize vs 2 = v2
    generalize vs 3 = v3
    generalize vs 4 = v4
    generalize vs 5 = v5
    simp only [List.take_succ_cons, List.take_zero, List.drop_succ_cons, List.drop_zero, putAll]
    go_frame
    go_wp2_with fail
    go_ret
    exact ⟨rfl, HC.out⟩

def K7 (d r : Nat) (D : DiskS) : Nat → Value → World → Prop
  | 0, v, _ => v = .pointer (some ⟨d, 0, none⟩)
  | 1, v, w => IntsV w v D.pending
  | 2, v, _ => v = .pointer (some ⟨r, 0, none⟩)
  | 3, v, w => IntsV w v D.pending
  | _, v, _ => v = .bool true
theorem IntsV.later {w w' : World} {v : Value} {l : List Int} (h : IntsV w v l) (ht : Tch [] w w') : IntsV w' v l := by
  obtain ⟨a, cap, h1, h2⟩ := h
  exact ⟨a, cap, h1, h2.touch ht (by simp)⟩
theorem cf_dead (args : Array Value) (w : World) : (callFunc 15 args).run Try.prog w = .ok (.enter 15 args) w := rfl
theorem cf_size (args : Array Value) (w : World) : (callFunc 28 args).run Try.prog w = .ok (.enter 28 args) w := rfl

set_option maxRecDepth 20000 in
set_option maxHeartbeats 4000000 in
theorem does_7 {w0 w : World} {d L M r RL RW RH : Nat} {D : DiskS} (h : Both w0 w d L M D r RL RW RH D []) (o : OpV) (hw : o.what = 7) :
    Calls Try.prog 21 #[.pointer (some ⟨d, 0, none⟩), .pointer (some ⟨r, 0, none⟩), o.val] w fun e w' => e = .returned (.bool true) ∧ Both w0 w' d L M D r RL RW RH D [] := by
  have hx := h.put o.cells
  have HX := Lib.hid hx
  clear h hx
  unfold OpV.cells at HX
  unfold OpV.val
  obtain ⟨what, oi, text, ka, keep, kcap⟩ := o
  simp only at hw
  subst hw
  go_enter Try.func21, Try.ntmps21
  go_wp2_with (go_at_call 16; refine (counts_any HX.out.dk).mono ?_; rintro e w' ⟨rfl, hq1⟩; have HY := Lib.hid ((HX.out.same hq1).drop (B' := []) (by simp)); clear hq1 HX)
  refine wp_region_vals 6 41 (fun w' => Both w0 w' d L M D r RL RW RH D []) (K7 d r D) (by kernel_rfl) (by kernel_rfl) (by kernel_rfl) (by decide) (HY.out.same (Tch.refl _ _).drew) ?_ ?_ ?_
  · intro w1 w2 _ _ ht i v hk
    unfold K7 at hk ⊢
    split at hk
    · exact hk
    · exact hk.later ht
    · exact hk
    · exact hk.later ht
    · exact hk
  · intro i o hi ho fu w' hC hold hdep
    have hi7 : i = 0 ∨ i = 1 ∨ i = 2 ∨ i = 3 ∨ i = 4 ∨ i = 5 := by omega
    rcases hi7 with rfl | rfl | rfl | rfl | rfl | rfl
    all_goals (simp only [List.getElem?_cons_zero, List.getElem?_cons_succ, Option.some.injEq] at ho; subst ho; apply step_plain rfl)
    · have hx := hold 0 (by show _ < 176; omega) (by kernel_rfl)
      exact stpR_ok (exec_move hx) ⟨rfl, hC, Tch.refl _ _⟩
    · have hx : fu.tmps[127]?.getD undef = .pointer (some ⟨d, 0, none⟩) := ev_tmp (hdep 0 127 (by show _ < 176; omega) (by kernel_rfl) (by kernel_rfl))
      go_simp
      refine (pending_any hC.dk).mono ?_
      rintro e w4 ⟨hq1, v, rfl, hq2⟩
      exact ⟨_, rfl, hq2, hC.same hq1, hq1⟩
    · have hx := hold 1 (by show _ < 176; omega) (by kernel_rfl)
      exact stpR_ok (exec_move hx) ⟨rfl, hC, Tch.refl _ _⟩
    · have hx : fu.tmps[129]?.getD undef = .pointer (some ⟨r, 0, none⟩) := ev_tmp (hdep 2 129 (by show _ < 176; omega) (by kernel_rfl) (by kernel_rfl))
      go_simp
      refine (refPending_any hC.rf).mono ?_
      rintro e w4 ⟨hq1, v, rfl, hq2⟩
      exact ⟨_, rfl, hq2, hC.same hq1, hq1⟩
    · have hx : IntsV w' (fu.eval (.tmp 128)) D.pending := hdep 1 128 (by show _ < 176; omega) (by kernel_rfl) (by kernel_rfl)
      have hy : IntsV w' (fu.eval (.tmp 130)) D.pending := hdep 3 130 (by show _ < 176; omega) (by kernel_rfl) (by kernel_rfl)
      obtain ⟨a1, c1, hx1, hx2⟩ := hx
      obtain ⟨a2, c2, hy1, hy2⟩ := hy
      have hx1 := ev_tmp hx1
      have hy1 := ev_tmp hy1
      have hs := hC.dk.ok.size
      have hp := pending_len D
      go_simp
      refine (eqInts_any hx2 hy2 (by omega) (by omega)).mono ?_
      rintro e w4 ⟨rfl, hq1⟩
      rw [decide_eq_true rfl]
      exact ⟨_, rfl, rfl, hC.same hq1, hq1⟩
    · have hx : fu.eval (.tmp 131) = .bool true := hdep 4 131 (by show _ < 176; omega) (by kernel_rfl) (by kernel_rfl)
      exact stpR_ok (exec_move hx) ⟨rfl, hC, Tch.refl _ _⟩
  · intro vs wv hC hK
    refine ⟨fun w' => Both w0 w' d L M D r RL RW RH D [], hC, ?_⟩
    have h5 : vs 5 = .bool true := hK 5 (by omega)
    have H5 := Lib.hid h5
    clear hC hK h5
    unfold fullOf
    rw [show (List.range 6).map vs = [vs 0, vs 1, vs 2, vs 3, vs 4, vs 5] from rfl, H5.out]
    generalize vs 0 = v0
    generalize vs 1 = v1
    generalize vs 2 = v2
    generalize vs 3 = v3
    generalize vs 4 = v4
    simp only [List.take_succ_cons, List.take_zero, List.drop_succ_cons, List.drop_zero, putAll]
    go_frame
    have C5 : Hid (∀ w', Both w0 w' d L M D r RL RW RH D [] → w'.cell? ⟨r, 5, none⟩ = some (.int .i64 D.writes)) := fun w' h => by
      have c := cell_of_row w' r 5 _ _ _ h.rf.hr
      simpa only [List.getElem?_toArray, List.getElem?_cons_zero, List.getElem?_cons_succ] using c
    have C6 : Hid (∀ w', Both w0 w' d L M D r RL RW RH D [] → w'.cell? ⟨r, 6, none⟩ = some (.int .i64 D.flushes)) := fun w' h => by
      have c := cell_of_row w' r 6 _ _ _ h.rf.hr
      simpa only [List.getElem?_toArray, List.getElem?_cons_zero, List.getElem?_cons_succ] using c
    have C3 : Hid (∀ w', Both w0 w' d L M D r RL RW RH D [] → w'.cell? ⟨r, 3, none⟩ = some (.bool D.dead)) := fun w' h => by
      have c := cell_of_row w' r 3 _ _ _ h.rf.hr
      simpa only [List.getElem?_toArray, List.getElem?_cons_zero, List.getElem?_cons_succ] using c
    have C0 : Hid (∀ w', Both w0 w' d L M D r RL RW RH D [] → w'.cell? ⟨r, 0, none⟩ = some (.slice (some ⟨RL, 0, none⟩) D.lasts.length D.lasts.length)) := fun w' h => by
      have c := cell_of_row w' r 0 _ _ _ h.rf.hr
      simpa only [List.getElem?_toArray, List.getElem?_cons_zero, List.getElem?_cons_succ] using c
    have HDEAD : Hid (∀ w', Both w0 w' d L M D r RL RW RH D [] → Calls Try.prog 15 #[.pointer (some ⟨d, 0, none⟩)] w' fun e w'' => e = .returned (.bool D.dead) ∧ Both w0 w'' d L M D r RL RW RH D []) := fun w' hc => (dead_any hc.dk).mono (by rintro e w'' ⟨h1, rfl⟩; exact ⟨h1, hc⟩)
    have HSIZE : Hid (∀ w', Both w0 w' d L M D r RL RW RH D [] → Calls Try.prog 28 #[.pointer (some ⟨d, 0, none⟩)] w' fun e w'' => e = .returned (.int .i64 D.lasts.length) ∧ Both w0 w'' d L M D r RL RW RH D []) := fun w' hc => (size_any hc.dk).mono (by rintro e w'' ⟨h1, rfl⟩; exact ⟨h1, hc⟩)
    have hb1 : (D.writes == D.writes) = true := beq_self_eq_true _
    have hb2 : (D.flushes == D.flushes) = true := beq_self_eq_true _
    have hb3 : (D.dead == D.dead) = true := beq_self_eq_true _
    have hb4 : ((D.lasts.length : Int) == (D.lasts.length : Int)) = true := beq_self_eq_true _
    (repeat (first
      | ((with_reducible refine wq_load_cell (by kernel_rfl) C5.out ?_ ?_ ?_); exact rfl; exact rfl; go_frame)
      | ((with_reducible refine wq_load_cell (by kernel_rfl) C6.out ?_ ?_ ?_); exact rfl; exact rfl; go_frame)
      | ((with_reducible refine wq_load_cell (by kernel_rfl) C3.out ?_ ?_ ?_); exact rfl; exact rfl; go_frame)
      | ((with_reducible refine wq_load_cell (by kernel_rfl) C0.out ?_ ?_ ?_); exact rfl; exact rfl; go_frame)
      | ((with_reducible refine wq_fn cf_dead ?_ ?_ HDEAD.out ?_); exact rfl; exact rfl; go_frame)
      | ((with_reducible refine wq_fn cf_size ?_ ?_ HSIZE.out ?_); exact rfl; exact rfl; go_frame)
      | go_big_quiet_skip | (go_big_quiet_want; go_big_quiet_op; first | go_big_quiet_on | (refine ⟨_, fun _ _ => rfl, ?_⟩; go_big_quiet_on))))
    refine wpQuiet_nil ?_
    intro w'' hC''
    have HC := Lib.hid hC''
    clear hC''
    go_wp2_with fail
    go_ret
    exact ⟨rfl, HC.out⟩
end Go.Proofs.Ytpfgjopiddopbaa
