/-
  Where there are no pages: package page's functions over nil.
-/
import Derived.Test.YtkjgbhpnlgcinaaGreatDoorMP4
namespace Go.Proofs.YtkjgbhpnlgcinaaGreatDoor
open Go.RowKit Go.Cib
theorem nfits_any (w : World) : Calls Tryz.prog 56 #[.pointer none] w fun e w' => e = .returned (.tuple #[.int .i64 0, .int .i64 1]) ∧ w = w' := by
  go_enter Tryz.func56, Tryz.ntmps56
  go_wp2_with fail
  go_ret2
  exact ⟨rfl, rfl⟩
theorem nmake_any (w : World) : Calls Tryz.prog 27 #[.pointer none] w fun e w' => e = .returned (.int .i64 1) ∧ w = w' := by
  go_enter Tryz.func27, Tryz.ntmps27
  go_wp2_with (go_at_call 56; refine (nfits_any _).mono ?_; rintro e w' ⟨rfl, rfl⟩)
  go_ret
  exact ⟨rfl, rfl⟩
theorem nopen_any (w : World) : Calls Tryz.prog 22 #[.pointer none] w fun e w' => e = .returned (.tuple #[.pointer none, .int .i64 1]) ∧ w = w' := by
  go_enter Tryz.func22, Tryz.ntmps22
  go_wp2_with (go_at_call 56; refine (nfits_any _).mono ?_; rintro e w' ⟨rfl, rfl⟩)
  go_ret2
  exact ⟨rfl, rfl⟩
theorem npmay_any (w : World) (n : Int) : Calls Tryz.prog 52 #[.pointer none, .int .i64 n] w fun e w' => e = .returned (.int .i64 1) ∧ w = w' := by
  go_enter Tryz.func52, Tryz.ntmps52
  go_wp2_with fail
  go_ret
  exact ⟨rfl, rfl⟩
theorem npfirst_any (w : World) : Calls Tryz.prog 11 #[.pointer none] w fun e w' => e = .returned (.int .i64 0) ∧ w = w' := by
  go_enter Tryz.func11, Tryz.ntmps11
  go_wp2_with fail
  go_ret
  exact ⟨rfl, rfl⟩
theorem nppages_any (w : World) : Calls Tryz.prog 16 #[.pointer none] w fun e w' => e = .returned (.int .i64 0) ∧ w = w' := by
  go_enter Tryz.func16, Tryz.ntmps16
  go_wp2_with fail
  go_ret
  exact ⟨rfl, rfl⟩
theorem npfree_any (w : World) : Calls Tryz.prog 10 #[.pointer none] w fun e w' => e = .returned (.int .i64 0) ∧ w = w' := by
  go_enter Tryz.func10, Tryz.ntmps10
  go_wp2_with fail
  go_ret
  exact ⟨rfl, rfl⟩
theorem nptaken_any (w : World) (n : Int) : Calls Tryz.prog 26 #[.pointer none, .int .i64 n] w fun e w' => e = .returned (.bool false) ∧ w = w' := by
  go_enter Tryz.func26, Tryz.ntmps26
  go_wp2_with fail
  go_ret
  exact ⟨rfl, rfl⟩
theorem npgive_any (w : World) (n : Int) : Calls Tryz.prog 13 #[.pointer none, .int .i64 n] w fun e w' => e = .returned (.int .i64 1) ∧ w = w' := by
  go_enter Tryz.func13, Tryz.ntmps13
  go_wp2_with (go_at_call 52; refine (npmay_any _ _).mono ?_; rintro e w' ⟨rfl, rfl⟩)
  go_ret
  exact ⟨rfl, rfl⟩
theorem nproot_any (w : World) (n : Int) : Calls Tryz.prog 24 #[.pointer none, .int .i64 n] w fun e w' => e = .returned (.tuple #[.int .i64 0, .int .i64 1]) ∧ w = w' := by
  go_enter Tryz.func24, Tryz.ntmps24
  go_wp2_with fail
  go_ret2
  exact ⟨rfl, rfl⟩
theorem npsetRoot_any (w : World) (i n : Int) : Calls Tryz.prog 29 #[.pointer none, .int .i64 i, .int .i64 n] w fun e w' => e = .returned (.int .i64 1) ∧ w = w' := by
  go_enter Tryz.func29, Tryz.ntmps29
  go_wp2_with (go_at_call 24; refine (nproot_any _ _).mono ?_; rintro e w' ⟨rfl, rfl⟩)
  go_ret
  exact ⟨rfl, rfl⟩
theorem npchanged_any (w : World) : Calls Tryz.prog 25 #[.pointer none] w fun e w' => e = .returned (.tuple #[.int .i64 0, .int .i64 1]) ∧ w = w' := by
  go_enter Tryz.func25, Tryz.ntmps25
  go_wp2_with fail
  go_ret2
  exact ⟨rfl, rfl⟩
theorem npcommit_any (w : World) : Calls Tryz.prog 18 #[.pointer none] w fun e w' => e = .returned (.int .i64 1) ∧ w = w' := by
  go_enter Tryz.func18, Tryz.ntmps18
  go_wp2_with fail
  go_ret
  exact ⟨rfl, rfl⟩
theorem nprollback_any (w : World) : Calls Tryz.prog 19 #[.pointer none] w fun e w' => e = .returned (.int .i64 1) ∧ w = w' := by
  go_enter Tryz.func19, Tryz.ntmps19
  go_wp2_with fail
  go_ret
  exact ⟨rfl, rfl⟩
theorem nptake_any (w : World) : Calls Tryz.prog 12 #[.pointer none] w fun e w' => e = .returned (.tuple #[.int .i64 0, .int .i64 1]) ∧ w = w' := by
  go_enter Tryz.func12, Tryz.ntmps12
  go_wp2_with fail
  go_step3
  go_wp2_with fail
  try rw [Exit.noGoto_ret]
  go_ret2
  exact ⟨rfl, rfl⟩
set_option maxRecDepth 20000 in
theorem npget_any (w : World) (n : Int) : Calls Tryz.prog 23 #[.pointer none, .int .i64 n] w fun e w' => e = .returned (.tuple #[.agg (secA (Arr.zero : Page)), .int .i64 1]) ∧ Tch [] w w' := by
  obtain ⟨W, hW⟩ : ∃ W, w.alloc (.cells (secA (Arr.zero : Page)) 54) = W := ⟨_, rfl⟩
  have tW : Tch [] w W := by rw [← hW]; exact (Tch.refl _ _).alloc _
  have bW : W.heap[w.heap.size]? = some (.cells (secA (Arr.zero : Page)) 54) := by rw [← hW]; exact heap_alloc_new _ _
  have HW := Lib.hid hW
  have TW := Lib.hid tW
  have BW := Lib.hid bW
  clear hW tW bW
  go_enter Tryz.func23, Tryz.ntmps23
  go_upto_region 1 with ((with_reducible refine wc_alloc_arr pageT ?_); go_frame)
  rw [HW.out]
  go_wp2_with (first | (go_at_call 52; refine (npmay_any _ _).mono ?_; rintro e w' ⟨rfl, rfl⟩) | ((with_reducible apply wc_build_arr pageT); exact rfl; go_frame) | ((with_reducible apply wc_store_var pageT BW.out); exact rfl; exact rfl; go_frame))
  refine bodyPost_ret (res_cell_tmp pageT.agg rfl _ rfl (setRow_heap _ _ _ _ _ _ BW.out) (size_secA _)) rfl ?_
  exact ⟨rfl, TW.out.setRow (.inr (Nat.le_refl _)) _⟩
set_option maxRecDepth 20000 in
theorem npput_any (w : World) (n : Int) (x : Page) : Calls Tryz.prog 28 #[.pointer none, .int .i64 n, .agg (secA x)] w fun e w' => e = .returned (.int .i64 1) ∧ Tch [] w w' := by
  obtain ⟨W, hW⟩ : ∃ W, w.alloc (.cells (secA x) 54) = W := ⟨_, rfl⟩
  have tW : Tch [] w W := by rw [← hW]; exact (Tch.refl _ _).alloc _
  have HW := Lib.hid hW
  have TW := Lib.hid tW
  clear hW tW
  go_enter Tryz.func28, Tryz.ntmps28
  go_upto_region 1 with ((with_reducible refine wc_box_agg ?_ ?_); exact rfl; go_frame)
  rw [HW.out]
  go_wp2_with (go_at_call 52; refine (npmay_any _ _).mono ?_; rintro e w' ⟨rfl, rfl⟩)
  go_ret
  exact ⟨rfl, TW.out⟩
end Go.Proofs.YtkjgbhpnlgcinaaGreatDoor
/-
  Package page's Changed and Commit, of what 'changed' answers.
-/
namespace Go.Proofs.YtkjgbhpnlgcinaaGreatDoor
open Go.RowKit Go.Cib
/-- What 'changed' answers. -/
def ChangedOut (w : World) (p g d L M V Mo : Nat) (P : PgS) (e : Ending) (w' : World) : Prop :=
  Tch [g] w w' ∧ PgAt w' p g d L M V Mo P.changed.2.2 ∧ ∃ v, e = .returned (.tuple #[v, .int .i64 P.changed.1]) ∧ OwnImgs w' w.heap.size 84 v P.changed.2.1
theorem pchanged_of {w : World} {p g d L M V Mo : Nat} {P : PgS} (CH : Calls Tryz.prog 55 #[.pointer (some ⟨p, 0, none⟩)] w (ChangedOut w p g d L M V Mo P)) :
    Calls Tryz.prog 25 #[.pointer (some ⟨p, 0, none⟩)] w fun e w' => e = .returned (.tuple #[.int .i64 P.changed.2.1.length, .int .i64 P.changed.1]) ∧ PgAt w' p g d L M V Mo P.changed.2.2 ∧ Tch [g] w w' := by
  have HC := Lib.hid CH
  clear CH
  obtain ⟨er, her⟩ : ∃ er, P.changed.1 = er := ⟨_, rfl⟩
  obtain ⟨ws, hws⟩ : ∃ ws, P.changed.2.1 = ws := ⟨_, rfl⟩
  obtain ⟨P2, hP2⟩ : ∃ P2, P.changed.2.2 = P2 := ⟨_, rfl⟩
  unfold ChangedOut at HC
  rw [her, hws, hP2] at HC
  rw [her, hws, hP2]
  clear her hws hP2
  go_enter Tryz.func25, Tryz.ntmps25
  go_wp2_with (go_at_call 55; refine HC.out.mono ?_; rintro e w5 ⟨q1, q2, v, rfl, q3⟩; obtain ⟨ia, icap, rfl, _⟩ := q3.at_; have Q1 := Lib.hid q1; have Q2 := Lib.hid q2; clear q1 q2 q3)
  go_ret2
  exact ⟨rfl, Q2.out, Q1.out⟩
set_option maxRecDepth 20000 in
set_option maxHeartbeats 1000000 in
theorem pcommit_of {w : World} {p g d L M V Mo : Nat} {P : PgS} (hw : ∀ k ∈ [g, d, L, M, V], k < w.heap.size) (ok : P.changed.2.2.log.Ok) (hlen : P.changed.2.1.length ≤ 100000) (hnow : P.changed.2.2.now = P.now) (CH : Calls Tryz.prog 55 #[.pointer (some ⟨p, 0, none⟩)] w (ChangedOut w p g d L M V Mo P)) :
    Calls Tryz.prog 18 #[.pointer (some ⟨p, 0, none⟩)] w fun e w' => e = .returned (.int .i64 P.commit.1) ∧ PgAt w' p g d L M V Mo P.commit.2 ∧ Tch [p, g, d, L, M, V, Mo] w w' := by
  have HC := Lib.hid CH
  clear CH
  obtain ⟨er, her⟩ : ∃ er, P.changed.1 = er := ⟨_, rfl⟩
  obtain ⟨ws, hws⟩ : ∃ ws, P.changed.2.1 = ws := ⟨_, rfl⟩
  obtain ⟨P2, hP2⟩ : ∃ P2, P.changed.2.2 = P2 := ⟨_, rfl⟩
  have hE : P.commit = if er ≠ 0 then (er, P2) else if (P2.log.commit ws).1 ≠ 0 then ((P2.log.commit ws).1, { P2 with log := (P2.log.commit ws).2 }) else (0, { P2 with log := (P2.log.commit ws).2, last := P2.now, over := fun _ => none }) := by
    unfold PgS.commit
    rw [her, hws, hP2]
    rw [hP2] at hnow
    rw [← hnow]
  unfold ChangedOut at HC
  rw [her, hws, hP2] at HC
  rw [hws] at hlen
  rw [hP2] at ok
  have E := Lib.hid hE
  have OKK := Lib.hid ok
  have HLEN := Lib.hid hlen
  have HW := Lib.hid hw
  clear her hws hP2 hE ok hlen hw hnow
  by_cases he : er = 0
  · have he1 := he
    rw [he] at HC
    rw [if_neg (by simp [he])] at E
    clear he he1
    go_enter Tryz.func18, Tryz.ntmps18
    go_upto_region 5 with (go_at_call 55; refine HC.out.mono ?_; rintro e w5 ⟨q1, q2, v, rfl, q3⟩; obtain ⟨ia, icap, rfl, q4, q5⟩ := q3.at_; have Q1 := Lib.hid q1; have Q2 := Lib.hid q2; have Q4 := Lib.hid q4; have Q5 := Lib.hid q5; have c0 := q2.c0; clear q1 q2 q3 q4 q5)
    have CC : Hid (Calls Tryz.prog 41 #[.pointer (some ⟨g, 0, none⟩), .slice ia ws.length icap] w5 fun e w' => e = .returned (.int .i64 (P2.log.commit ws).1) ∧ PgAt w' p g d L M V Mo { P2 with log := (P2.log.commit ws).2 } ∧ Tch [p, g, d, L, M, V, Mo] w w') :=
      (commit_any Q2.out.log OKK.out Q4.out HLEN.out (fun b hb hm => by have h1 := Q5.out b hb; have h2 := HW.out b hm; omega)).mono fun e w' ⟨a1, a2, a3⟩ => ⟨a1, Q2.out.logged a2 a3 Q2.out.nMo.2.1 Q2.out.nMo.1 Q2.out.nMo.2.2, (Q1.out.mono (by simp)).trans (a3.mono fun k hk => by simp only [List.mem_cons, List.not_mem_nil, or_false] at hk; rcases hk with h | h | h | h | h <;> simp [h])⟩
    obtain ⟨e2, he2⟩ : ∃ e2, (P2.log.commit ws).1 = e2 := ⟨_, rfl⟩
    rw [he2] at CC E
    obtain ⟨L2, hL2⟩ : ∃ L2, (P2.log.commit ws).2 = L2 := ⟨_, rfl⟩
    rw [hL2] at CC E
    clear he2 hL2 Q4 Q5 HC Q2
    by_cases h2 : e2 = 0
    · rw [h2] at CC
      rw [if_neg (by simp [h2])] at E
      clear h2
      go_upto_region 7 with (go_at_call 41; refine CC.out.mono ?_; rintro e w6 ⟨rfl, q1, q2⟩; have R1 := Lib.hid q1; have R2 := Lib.hid q2; clear q1 q2)
      have HP := Lib.hid R1.out.hp
      have HAL := Lib.hid (pgA_now g P2.pages P2.now P2.last Mo).all
      have HSN : Hid (3 + 264 ≤ (pgA g P2.pages P2.now P2.last Mo).size) := by show _ ≤ _; rw [size_pgA]; omega
      have HSL : Hid (267 + 264 ≤ (pgA g P2.pages P2.now P2.last Mo).size) := by show _ ≤ _; rw [size_pgA]; omega
      have HS1 := Lib.hid (size_stA P2.now)
      have HS2 := Lib.hid (stA_one P2.now)
      have HPE : Hid (PgAt (w6.setRow p (spl (pgA g P2.pages P2.now P2.last Mo) 267 (stA P2.now))) p g d L M V Mo { P2 with log := L2, last := P2.now }) := by
        refine R1.out.states (s1 := P2.now) (s2 := P2.now) ?_ ((Tch.refl _ _).setRow (.inl (by simp)) _)
        rw [pgA_storeLast]
        exact setRow_heap _ _ _ _ _ _ HP.out
      have HTE : Hid (Tch [p, g, d, L, M, V, Mo] w (w6.setRow p (spl (pgA g P2.pages P2.now P2.last Mo) 267 (stA P2.now)))) := R2.out.setRow (.inl (by simp)) _
      have cM := HPE.out.cM
      generalize stA P2.now = vs at *
      generalize pgA g P2.pages P2.now P2.last Mo = cs at *
      go_upto_region 8 with (first | ((with_reducible refine wc_load_part stateT HP.out HSN.out HAL.out ?_ ?_); exact rfl; go_frame) | ((with_reducible refine wc_store_part stateT HP.out HSL.out HS1.out HS2.out ?_ ?_ ?_); exact rfl; exact rfl; go_frame))
      generalize w6.setRow p (spl cs 267 vs) = w7 at *
      go_wp2_with ((with_reducible apply wc_clear uMapPage HPE.out.hM); exact rfl; exact rfl; exact rfl; intro w5 t5 hm5; go_frame; have HT5 := Lib.hid t5; have HM5 := Lib.hid hm5; clear t5 hm5)
      go_ret
      rw [E.out]
      exact ⟨rfl, HPE.out.over (o := fun _ => none) HM5.out HT5.out, HTE.out.trans (HT5.out.mono (by simp))⟩
    · have hee : ((e2 : Int) == 0) = false := by simpa using h2
      rw [if_pos h2] at E
      go_wp2_with (go_at_call 41; refine CC.out.mono ?_; rintro e w6 ⟨rfl, q1, q2⟩; have R1 := Lib.hid q1; have R2 := Lib.hid q2; clear q1 q2)
      go_ret
      rw [E.out]
      exact ⟨rfl, R1.out, R2.out⟩
  · have hee : ((er : Int) == 0) = false := by simpa using he
    rw [if_pos he] at E
    go_enter Tryz.func18, Tryz.ntmps18
    go_wp2_with (go_at_call 55; refine HC.out.mono ?_; rintro e w5 ⟨q1, q2, v, rfl, q3⟩; obtain ⟨ia, icap, rfl, _⟩ := q3.at_; have Q1 := Lib.hid q1; have Q2 := Lib.hid q2; clear q1 q2 q3)
    go_ret
    rw [E.out]
    exact ⟨rfl, Q2.out, Q1.out.mono (by simp)⟩
end Go.Proofs.YtkjgbhpnlgcinaaGreatDoor
/-
  What holds of pages is kept by all that is done to them; plain.
-/
namespace Go.Cib
open Go Go.RowKit
namespace PgS
theorem Ok.logged {P : PgS} (h : P.Ok) {L : LogS} (hl : L.Ok) (hp : L.pages = P.log.pages) : ({ P with log := L } : PgS).Ok :=
  ⟨hl, hp.trans h.same, h.p3, h.p4, h.over, h.now, h.last, h.roots, h.roots'⟩
theorem may_zero {P : PgS} {n : Int} (h : P.may n = 0) : 2 ≤ n ∧ n < P.pages ∧ P.now.taken n.toNat = true := by
  unfold may at h
  split at h
  · cases h
  · split at h
    · cases h
    · rename_i h1 h2
      exact ⟨by omega, by omega, by simpa using h2⟩
theorem Ok.put {P : PgS} (h : P.Ok) (n : Int) (x : Page) : (P.put n x).2.Ok := by
  unfold PgS.put
  split
  · exact h
  · rename_i hm
    have hm : P.may n = 0 := by omega
    obtain ⟨h1, h2, _⟩ := may_zero hm
    refine ⟨h.log, h.same, h.p3, h.p4, fun i y hi => ?_, h.now, h.last, h.roots, h.roots'⟩
    simp only at hi
    split at hi
    · rename_i e; subst e; exact ⟨h1, h2⟩
    · exact h.over i y hi
theorem Ok.take {P : PgS} (h : P.Ok) (h0 : P.now.taken 0 = true) (h1 : P.now.taken 1 = true) : P.take.2.Ok := by
  unfold PgS.take
  obtain ⟨m, hm1, hm2, hm3, hm4⟩ := P.now.first_spec P.pages (h.now _ (Nat.le_refl _))
  rw [hm4]
  by_cases hmp : m < P.pages
  · rw [if_pos hmp]
    have hm : 2 ≤ m := by
      rcases Nat.lt_or_ge m 2 with hlt | hge
      · exfalso
        rcases (show m = 0 ∨ m = 1 by omega) with rfl | rfl
        · rw [h0] at hm2; cases hm2
        · rw [h1] at hm2; cases hm2
      · exact hge
    refine ⟨h.log, h.same, h.p3, h.p4, fun i y hi => ?_, fun n hn => ?_, h.last, h.roots, h.roots'⟩
    · simp only at hi
      split at hi
      · rename_i e; subst e; exact ⟨by omega, show (m : Int) < P.pages by omega⟩
      · exact h.over i y hi
    · show (if n = m then true else P.now.taken n) = false
      have hn2 : P.pages ≤ n := hn
      rw [if_neg (show ¬ n = m by omega), h.now n hn2]
  · rw [if_neg hmp]
    exact h
theorem Ok.give {P : PgS} (h : P.Ok) (n : Int) : (P.give n).2.Ok := by
  unfold PgS.give
  split
  · exact h
  split
  · exact h
  · refine ⟨h.log, h.same, h.p3, h.p4, fun i y hi => ?_, fun k hk => ?_, h.last, h.roots, h.roots'⟩
    · simp only at hi
      split at hi
      · cases hi
      · exact h.over i y hi
    · show (if k = n.toNat then false else P.now.taken k) = false
      split
      · rfl
      · exact h.now k hk
theorem Ok.setRoot {P : PgS} (h : P.Ok) (i n : Int) : (P.setRoot i n).2.Ok := by
  unfold PgS.setRoot
  split
  · exact h
  split
  · exact h
  · rename_i h1 h2
    have hn : n.toNat < 4294967296 := by
      by_cases hz : n = 0
      · rw [hz]; decide
      · have hm : P.may n = 0 := by
          by_cases hq : P.may n = 0
          · exact hq
          · exact absurd ⟨hz, hq⟩ h2
        have := may_zero hm
        have := h.p4
        omega
    refine ⟨h.log, h.same, h.p3, h.p4, h.over, h.now, h.last, fun k => ?_, h.roots'⟩
    show (if k = i.toNat then n.toNat else P.now.roots k) < _
    split
    · exact hn
    · exact h.roots k
theorem Ok.rollback {P : PgS} (h : P.Ok) : P.rollback.Ok :=
  ⟨h.log, h.same, h.p3, h.p4, fun i y hi => (by cases hi), h.last, h.last, h.roots', h.roots'⟩
theorem Ok.get {P : PgS} (h : P.Ok) (n : Int) : (P.get n).2.Ok := by
  unfold PgS.get
  split
  · exact h
  split
  · exact h
  · have := Go.Proofs.YtkjgbhpnlgcinaaGreatDoor.read_ok h.log n
    exact h.logged this.1 this.2
theorem diffs_ok (o : Int → Option Page) : ∀ (l : List Int) {L : LogS}, L.Ok → (diffs o l L).2.2.Ok ∧ (diffs o l L).2.2.pages = L.pages
  | [], _, h => ⟨h, rfl⟩
  | n :: ns, L, h => by
    have h1 := Go.Proofs.YtkjgbhpnlgcinaaGreatDoor.read_ok h n
    unfold diffs
    split
    · exact h1
    · have h2 := diffs_ok o ns h1.1
      exact ⟨h2.1, h2.2.trans h1.2⟩
theorem Ok.changed {P : PgS} (h : P.Ok) : P.changed.2.2.Ok ∧ P.changed.2.2.now = P.now := by
  have := diffs_ok P.over P.keys h.log
  unfold PgS.changed
  split
  · exact ⟨h.logged this.1 this.2, rfl⟩
  · exact ⟨h.logged this.1 this.2, rfl⟩
theorem diffs_len (o : Int → Option Page) : ∀ (l : List Int) (L : LogS), (diffs o l L).2.1.length ≤ l.length
  | [], _ => Nat.le_refl _
  | n :: ns, L => by
    have h1 := diffs_len o ns (L.read n).2
    unfold diffs
    split
    · simp
    · simp only [List.length_append, List.length_cons]
      split <;> simp <;> omega
theorem changed_len {P : PgS} (h : P.Ok) : P.changed.2.1.length ≤ 3842 := by
  have h1 := diffs_len P.over P.keys P.log
  have h2 : P.keys.length ≤ P.pages := by
    unfold keys
    exact Nat.le_trans (List.length_filter_le _ _) (by simp)
  have h3 := h.p4
  have h4 : P.stateWs.length ≤ 2 := by
    unfold stateWs
    rw [List.length_append]
    split <;> split <;> simp
  unfold PgS.changed
  split
  · simp
  · rw [List.length_append]; omega
end PgS
end Go.Cib
