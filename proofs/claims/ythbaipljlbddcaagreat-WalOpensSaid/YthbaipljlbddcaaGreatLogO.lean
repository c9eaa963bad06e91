/-
  Pages are written, all or none: package wal's Commit.
-/
import Derived.Test.YthbaipljlbddcaaGreatLogN
namespace Go.Cib
open Go Go.RowKit
namespace DiskS
theorem length_goes (D : DiskS) : D.goes.lasts.length = D.lasts.length := by unfold goes; split <;> rfl
theorem length_act (D : DiskS) (x : DAct) : (D.act x).2.lasts.length = D.lasts.length := by
  cases x with
  | write i s =>
    show (D.write i s).2.lasts.length = _
    unfold write
    split
    · rw [length_goes]; rfl
    · rfl
  | flush =>
    show D.flush.2.lasts.length = _
    unfold flush
    split
    · rfl
    · split
      · rw [length_goes]; rfl
      · show (lay _ _).length = _
        rw [length_lay, length_goes]; rfl
theorem length_acts (D : DiskS) (xs : List DAct) : (D.acts xs).2.lasts.length = D.lasts.length := by
  induction xs generalizing D with
  | nil => rfl
  | cons x xs ih =>
    rw [acts_cons]
    split
    · rw [ih, length_act]
    · exact length_act D x
end DiskS
namespace LogS
theorem Ok.disk {S : LogS} (h : S.Ok) {D : DiskS} (hD : D.lasts.length = S.disk.lasts.length) : ({ S with disk := D } : LogS).Ok :=
  ⟨h.log3, h.log4, h.pages1, h.pages2, by rw [hD]; exact h.size, h.used, h.records, h.gen, h.over⟩
theorem Ok.dead {S : LogS} (h : S.Ok) (b : Bool) : ({ S with dead := b } : LogS).Ok := ⟨h.log3, h.log4, h.pages1, h.pages2, h.size, h.used, h.records, h.gen, h.over⟩
theorem Ok.raise {S : LogS} (h : S.Ok) : S.raise.2.Ok :=
  ⟨h.log3, h.log4, h.pages1, h.pages2, by show _ = (S.disk.acts _).2.lasts.length; rw [DiskS.length_acts]; exact h.size, h.used, h.records, Nat.mod_lt _ (by decide), h.over⟩
theorem Ok.cleared {S : LogS} (h : S.Ok) : S.cleared.Ok := ⟨h.log3, h.log4, h.pages1, h.pages2, h.size, Nat.zero_le _, Nat.zero_le _, h.gen, by intro i x hx; cases hx⟩
theorem Ok.checkpoint {S : LogS} (h : S.Ok) : S.checkpoint.2.Ok := by
  unfold LogS.checkpoint
  repeat' split
  · exact h
  · exact h
  · exact (h.disk (DiskS.length_acts _ _)).dead _
  · exact ((h.disk (DiskS.length_acts _ _)).raise.disk rfl).dead _
  · exact (h.disk (DiskS.length_acts _ _)).raise.cleared
theorem checkpoint_log (S : LogS) : S.checkpoint.2.log = S.log ∧ S.checkpoint.2.pages = S.pages := by
  unfold LogS.checkpoint
  repeat' split
  all_goals exact ⟨rfl, rfl⟩
theorem checkpoint_used {S : LogS} (h : S.checkpoint.1 = 0) : S.checkpoint.2.used = 0 := by
  unfold LogS.checkpoint at h ⊢
  split at h
  · cases h
  · split at h
    · rename_i h1 h2; rw [if_neg h1, if_pos h2]; exact h2
    · rename_i h1 h2
      rw [if_neg h1, if_neg h2]
      split at h
      · rename_i h3; exact absurd h h3
      · rename_i h3
        rw [if_neg h3]
        split at h
        · rename_i h4; exact absurd h h4
        · rename_i h4; rw [if_neg h4]; rfl
theorem nats_cast {S : LogS} {w : List (Int × Page)} (h : S.may w = 0) : (nats w).map (fun q => ((q.1 : Int), q.2)) = w ∧ (∀ q ∈ nats w, q.1 < S.pages) ∧ w.length ≤ 120 ∧ w.length + 2 ≤ S.log ∧ ((nats w).map (·.1)).Nodup := by
  unfold LogS.may at h
  split at h
  · rename_i hg
    split at h
    · cases h
    · rename_i hb
      have hpos : ∀ q ∈ w, ((q.1.toNat : Nat) : Int) = q.1 := fun q hq => by have := (hg.1 q hq).1; omega
      refine ⟨?_, ?_, by omega, by omega, ?_⟩
      · unfold nats
        rw [List.map_map]
        conv => rhs; rw [← List.map_id w]
        refine List.map_congr_left fun q hq => ?_
        exact Prod.ext (hpos q hq) rfl
      · intro q hq
        obtain ⟨r, hr, rfl⟩ := List.mem_map.1 hq
        have := hg.1 r hr
        show r.1.toNat < _
        omega
      · have h2 := hg.2
        unfold nats
        rw [List.map_map]
        have e : w.map (fun q => q.1) = (w.map (fun q => q.1.toNat)).map (fun n : Nat => (n : Int)) := by
          rw [List.map_map]
          exact List.map_congr_left fun q hq => (hpos q hq).symm
        rw [e] at h2
        exact List.Pairwise.of_map _ (fun a b h e => h (by rw [e])) h2
  · cases h
end LogS
end Go.Cib
namespace Go.Proofs.YthbaipljlbddcaaGreat
open Go.RowKit Go.Cib
set_option maxRecDepth 20000 in
set_option maxHeartbeats 2000000 in
theorem commit_any {w : World} {g d L M V : Nat} {S : LogS} (h : LogAt w g d L M V S) (ok : S.Ok) {ia : Option Addr} {icap : Nat} {ws : List (Int × Page)} (hI : ImgsAt w ia ws) (hn : ws.length ≤ 100000) (hib : ∀ b, ia = some ⟨b, 0, none⟩ → b ∉ [g, d, L, M, V]) :
    Calls Tryz.prog 17 #[.pointer (some ⟨g, 0, none⟩), .slice ia ws.length icap] w fun e w' =>
      e = .returned (.int .i64 (S.commit ws).1) ∧ LogAt w' g d L M V (S.commit ws).2 ∧ Tch [g, d, L, M, V] w w' := by
  have CM := Lib.hid (logMay_any (icap := icap) h hI hn ok.log3 ok.log4)
  obtain ⟨m, hm⟩ : ∃ m, ws.length = m := ⟨_, rfl⟩
  rw [hm] at hn CM ⊢
  have H := Lib.hid h
  have HII := Lib.hid hI
  have HM := Lib.hid hm
  have OKK := Lib.hid ok
  have HIB := Lib.hid hib
  clear h hI hm ok hib
  obtain ⟨em, hem⟩ : ∃ em, S.may ws = em := ⟨_, rfl⟩
  rw [hem] at CM
  by_cases hz : em = 0
  · subst hz
    by_cases h0 : m = 0
    · subst h0
      have e : S.commit ws = (0, S) := by unfold LogS.commit; rw [if_neg (by simp [hem]), if_pos (List.eq_nil_of_length_eq_zero HM.out)]
      have E := Lib.hid e
      clear e hem
      go_enter Tryz.func17, Tryz.ntmps17
      go_wp2_with (go_at_call 49; refine CM.out.mono ?_; rintro e w1 ⟨rfl, q1⟩; have T1 := Lib.hid q1; clear q1)
      go_ret
      rw [E.out]
      exact ⟨rfl, H.out.touch T1.out (by simp) (by simp) (by simp) (by simp) (by simp), T1.out.mono (by simp)⟩
    have h0' : ((m : Int) == 0) = false := by simp; omega
    cases hd : S.dead with
    | true =>
      have e : S.commit ws = (6, S) := by unfold LogS.commit; rw [if_neg (by simp [hem]), if_neg (fun e => h0 (by rw [← HM.out, e]; rfl)), if_pos hd]
      have E := Lib.hid e
      clear e hem
      go_enter Tryz.func17, Tryz.ntmps17
      go_wp2_with (go_at_call 49; refine CM.out.mono ?_; rintro e w1 ⟨rfl, q1⟩; have T1 := Lib.hid q1; have c7 := (H.out.touch q1 (by simp) (by simp) (by simp) (by simp) (by simp)).cell 7 rfl; rw [hd] at c7; clear q1)
      go_ret
      rw [E.out]
      exact ⟨rfl, H.out.touch T1.out (by simp) (by simp) (by simp) (by simp) (by simp), T1.out.mono (by simp)⟩
    | false =>
      obtain ⟨k1, k2, k3, k4, k5⟩ := LogS.nats_cast hem
      rw [HM.out] at k3 k4
      have e : S.commit ws = if S.log < S.used + m + 2 then (if S.checkpoint.1 ≠ 0 then S.checkpoint else S.checkpoint.2.write (LogS.nats ws)) else S.write (LogS.nats ws) := by
        unfold LogS.commit; rw [if_neg (by simp [hem]), if_neg (fun e => h0 (by rw [← HM.out, e]; rfl)), if_neg (by simp [hd]), HM.out]
      have E := Lib.hid e
      have hnl : (LogS.nats ws).length = m := by unfold LogS.nats; rw [List.length_map, HM.out]
      have hus := OKK.out.used
      have hl4 := OKK.out.log4
      -- what is done behind a checkpoint, or at once
      have TAIL : Hid (∀ (w1 : World) (S1 : LogS), LogAt w1 g d L M V S1 → S1.Ok → S1.pages = S.pages → S1.log = S.log → S1.used + m + 2 ≤ S1.log → Tch [g, d, L, M, V] w w1 →
          Calls Tryz.prog 50 #[.pointer (some ⟨g, 0, none⟩), .slice ia m icap] w1 fun e w' =>
            e = .returned (.int .i64 (S1.disk.acts (S1.writeAs (LogS.nats ws))).1) ∧ LogAt w' g d L M V { S1 with disk := (S1.disk.acts (S1.writeAs (LogS.nats ws))).2 } ∧ Tch [g, d, L, M, V] w w' ∧ ImgsAt w' ia ((LogS.nats ws).map fun q => ((q.1 : Int), q.2))) := by
        intro w1 S1 h1 ok1 hpg hlg hu1 t1
        have hI1 : ImgsAt w1 ia ((LogS.nats ws).map fun q => ((q.1 : Int), q.2)) := by rw [k1]; exact HII.out.touch t1 HIB.out
        have := write8_any (icap := icap) h1 ok1 hI1 (fun q hq => by have := k2 q hq; have := OKK.out.pages2; omega) (by rw [hnl]; omega)
        rw [hnl] at this
        refine this.mono ?_
        rintro e w' ⟨q1, q2, q3⟩
        exact ⟨q1, q2, t1.trans (q3.mono (by simp +contextual)), hI1.touch q3 (fun b hb hx => HIB.out b hb (by simp at hx ⊢; omega))⟩
      have TOOK : Hid (∀ (w1 : World) (S1 : LogS), LogAt w1 g d L M V S1 → S1.Ok → ImgsAt w1 ia ((LogS.nats ws).map fun q => ((q.1 : Int), q.2)) → Tch [g, d, L, M, V] w w1 →
          Calls Tryz.prog 52 #[.pointer (some ⟨g, 0, none⟩), .slice ia m icap] w1 fun e w' => e = .returned (.tuple #[]) ∧ LogAt w' g d L M V (S1.took (LogS.nats ws)) ∧ Tch [g, d, L, M, V] w w') := by
        intro w1 S1 h1 ok1 hI1 t1
        have := took_any (icap := icap) h1 hI1 (by rw [hnl]; omega) (by have := ok1.used; have := ok1.log4; omega) (by have := ok1.records; have := ok1.used; have := ok1.log4; omega)
        rw [hnl] at this
        refine this.mono ?_
        rintro e w' ⟨q1, q2, q3⟩
        exact ⟨q1, q2, t1.trans (q3.mono (by simp))⟩
      clear e k1 k2 k5 hem
      by_cases hc : S.log < S.used + m + 2
      · rw [if_pos hc] at E
        have hc' : (S.log : Int) - S.used < m + 2 := by omega
        have hcw : wrap64 ((S.log : Int) - S.used) = S.log - S.used := by unfold wrap64; omega
        have CK : Hid (∀ w1, Tch [] w w1 → Calls Tryz.prog 29 #[.pointer (some ⟨g, 0, none⟩)] w1 fun e w' => e = .returned (.int .i64 S.checkpoint.1) ∧ LogAt w' g d L M V S.checkpoint.2 ∧ Tch [g, d, L, M, V] w w') := fun w1 t1 =>
          (checkpoint_any (H.out.touch t1 (by simp) (by simp) (by simp) (by simp) (by simp)) OKK.out).mono (by rintro e w' ⟨q1, q2, q3⟩; exact ⟨q1, q2, (t1.mono (by simp)).trans q3⟩)
        go_enter Tryz.func17, Tryz.ntmps17
        go_upto_region 8 with (go_at_call 49; refine CM.out.mono ?_; rintro e w1 ⟨rfl, q1⟩; have T1 := Lib.hid q1; have h1 := H.out.touch q1 (by simp) (by simp) (by simp) (by simp) (by simp); have c7 := h1.cell 7 rfl; rw [hd] at c7; have c1 := h1.cell 1 rfl; have c4 := h1.cell 4 rfl; clear q1 h1)
        (refine wp_region_walk (C := fun w' => ∃ n, w' = World.drewN w1 n) 13 (by kernel_rfl) (by kernel_rfl) ⟨1, rfl⟩ ?_; simp only [List.take_succ_cons, List.take_zero, List.drop_succ_cons, List.drop_zero]; (repeat (first | fail | go_big_quiet_step (fail))); refine wpQuiet_nil ?_; intro _ hw'; obtain ⟨nq, hw''⟩ := hw'; subst hw'')
        have T2 := Lib.hid (T1.out.trans (tch_drewN w1 nq))
        clear c1 c4 c7
        generalize w1.drewN nq = w2 at *
        obtain ⟨ec, hec⟩ : ∃ ec, S.checkpoint.1 = ec := ⟨_, rfl⟩
        rw [hec] at CK
        by_cases hcz : ec = 0
        · subst hcz
          have okc := OKK.out.checkpoint
          obtain ⟨kl, kp⟩ := LogS.checkpoint_log S
          have ku := LogS.checkpoint_used hec
          rw [hec, if_neg (by simp)] at E
          obtain ⟨S1, hS1⟩ : ∃ S1, S.checkpoint.2 = S1 := ⟨_, rfl⟩
          rw [hS1] at E CK okc kl kp ku
          have OK1 := Lib.hid okc
          have KK := Lib.hid (And.intro kp (And.intro kl (show S1.used + m + 2 ≤ S1.log by omega)))
          clear hS1 okc kl kp ku hec
          obtain ⟨ew, hew⟩ : ∃ ew, (S1.disk.acts (S1.writeAs (LogS.nats ws))).1 = ew := ⟨_, rfl⟩
          obtain ⟨D9, hD9⟩ : ∃ D9, (S1.disk.acts (S1.writeAs (LogS.nats ws))).2 = D9 := ⟨_, rfl⟩
          have WR : Hid (∀ w1, LogAt w1 g d L M V S1 → Tch [g, d, L, M, V] w w1 → Calls Tryz.prog 50 #[.pointer (some ⟨g, 0, none⟩), .slice ia m icap] w1 fun e w' =>
              e = .returned (.int .i64 ew) ∧ LogAt w' g d L M V { S1 with disk := D9 } ∧ Tch [g, d, L, M, V] w w' ∧ ImgsAt w' ia ((LogS.nats ws).map fun q => ((q.1 : Int), q.2))) := fun w1 h1 t1 => by rw [← hew, ← hD9]; exact TAIL.out w1 S1 h1 OK1.out KK.out.1 KK.out.2.1 KK.out.2.2 t1
          have OK9 : Hid (({ S1 with disk := D9 } : LogS).Ok) := by rw [← hD9]; exact OK1.out.disk (DiskS.length_acts _ _)
          have hlen9 := k3
          by_cases hwz : ew = 0
          · have hw0 : (S1.disk.acts (S1.writeAs (LogS.nats ws))).1 = 0 := by rw [hew]; exact hwz
            have e9 : S1.write (LogS.nats ws) = (0, ({ S1 with disk := D9 } : LogS).took (LogS.nats ws)) := by unfold LogS.write; rw [if_neg (by rw [hew]; simp [hwz]), hD9]
            rw [e9] at E
            subst hwz
            clear e9 hw0 hew hD9
            go_wp2_with (first | (go_at_call 29; refine (CK.out _ T2.out).mono ?_; rintro e w3 ⟨rfl, q1, q2⟩; have Q1 := Lib.hid q1; have Q2 := Lib.hid q2; clear q1 q2) | (go_at_call 50; refine (WR.out _ Q1.out Q2.out).mono ?_; rintro e w4 ⟨rfl, r1, r2, r3⟩; have R1 := Lib.hid r1; have R2 := Lib.hid r2; have R3 := Lib.hid r3; clear r1 r2 r3) | (go_at_call 52; refine (TOOK.out _ _ R1.out OK9.out R3.out R2.out).mono ?_; rintro e w5 ⟨rfl, r1, r2⟩; have Z1 := Lib.hid r1; have Z2 := Lib.hid r2; clear r1 r2))
            go_ret
            rw [E.out]
            exact ⟨rfl, Z1.out, Z2.out⟩
          · have hw1 : (ew != 0) = true := by simp [hwz]
            have e9 : S1.write (LogS.nats ws) = (ew, { S1 with disk := D9, dead := S1.dead || ew == 6 }) := by
              unfold LogS.write; rw [if_pos (by rw [hew]; exact hwz), hew]; unfold LogS.told; rw [hew, hD9]
            rw [e9] at E
            clear e9 hew hD9
            go_wp2_with (first | (go_at_call 29; refine (CK.out _ T2.out).mono ?_; rintro e w3 ⟨rfl, q1, q2⟩; have Q1 := Lib.hid q1; have Q2 := Lib.hid q2; clear q1 q2) | (go_at_call 50; refine (WR.out _ Q1.out Q2.out).mono ?_; rintro e w4 ⟨rfl, r1, r2, r3⟩; have R1 := Lib.hid r1; have R2 := Lib.hid r2; clear r1 r2 r3) | (go_at_call 51; refine (told_any R1.out ew).mono ?_; rintro e w5 ⟨rfl, r1, r2⟩; have Z1 := Lib.hid r1; have Z2 := Lib.hid (R2.out.trans (r2.mono (by simp))); clear r1 r2))
            go_ret
            rw [E.out]
            exact ⟨rfl, Z1.out, Z2.out⟩
        · have hcz' : (ec != 0) = true := by simp [hcz]
          rw [hec, if_pos hcz] at E
          have hec2 := Lib.hid hec
          clear hec
          go_wp2_with (go_at_call 29; refine (CK.out _ T2.out).mono ?_; rintro e w3 ⟨rfl, q1, q2⟩; have Q1 := Lib.hid q1; have Q2 := Lib.hid q2; clear q1 q2)
          go_ret
          rw [E.out]
          have e2 : S.checkpoint = (ec, S.checkpoint.2) := Prod.ext hec2.out rfl
          rw [e2]
          exact ⟨rfl, Q1.out, Q2.out⟩
      · rw [if_neg hc] at E
        have hc' : ¬ (S.log : Int) - S.used < m + 2 := by omega
        have hcw : wrap64 ((S.log : Int) - S.used) = S.log - S.used := by unfold wrap64; omega
        go_enter Tryz.func17, Tryz.ntmps17
        go_upto_region 8 with (go_at_call 49; refine CM.out.mono ?_; rintro e w1 ⟨rfl, q1⟩; have T1 := Lib.hid q1; have h1 := H.out.touch q1 (by simp) (by simp) (by simp) (by simp) (by simp); have c7 := h1.cell 7 rfl; rw [hd] at c7; have c1 := h1.cell 1 rfl; have c4 := h1.cell 4 rfl; clear q1 h1)
        (refine wp_region_walk (C := fun w' => ∃ n, w' = World.drewN w1 n) 13 (by kernel_rfl) (by kernel_rfl) ⟨1, rfl⟩ ?_; simp only [List.take_succ_cons, List.take_zero, List.drop_succ_cons, List.drop_zero]; (repeat (first | fail | go_big_quiet_step (fail))); refine wpQuiet_nil ?_; intro _ hw'; obtain ⟨nq, hw''⟩ := hw'; subst hw'')
        have T2 := Lib.hid (T1.out.trans (tch_drewN w1 nq))
        have H2 := Lib.hid (H.out.touch T2.out (by simp) (by simp) (by simp) (by simp) (by simp))
        clear c1 c4 c7
        generalize w1.drewN nq = w2 at *
        obtain ⟨ew, hew⟩ : ∃ ew, (S.disk.acts (S.writeAs (LogS.nats ws))).1 = ew := ⟨_, rfl⟩
        obtain ⟨D9, hD9⟩ : ∃ D9, (S.disk.acts (S.writeAs (LogS.nats ws))).2 = D9 := ⟨_, rfl⟩
        have WR : Hid (∀ w1, LogAt w1 g d L M V S → Tch [g, d, L, M, V] w w1 → Calls Tryz.prog 50 #[.pointer (some ⟨g, 0, none⟩), .slice ia m icap] w1 fun e w' =>
            e = .returned (.int .i64 ew) ∧ LogAt w' g d L M V { S with disk := D9 } ∧ Tch [g, d, L, M, V] w w' ∧ ImgsAt w' ia ((LogS.nats ws).map fun q => ((q.1 : Int), q.2))) := fun w1 h1 t1 => by rw [← hew, ← hD9]; exact TAIL.out w1 S h1 OKK.out rfl rfl (by omega) t1
        have OK9 : Hid (({ S with disk := D9 } : LogS).Ok) := by rw [← hD9]; exact OKK.out.disk (DiskS.length_acts _ _)
        have hlen9 := k3
        by_cases hwz : ew = 0
        · have hw0 : (S.disk.acts (S.writeAs (LogS.nats ws))).1 = 0 := by rw [hew]; exact hwz
          have e9 : S.write (LogS.nats ws) = (0, ({ S with disk := D9 } : LogS).took (LogS.nats ws)) := by unfold LogS.write; rw [if_neg (by rw [hew]; simp [hwz]), hD9]
          rw [e9] at E
          subst hwz
          clear e9 hw0 hew hD9
          go_wp2_with (first | (go_at_call 50; refine (WR.out _ H2.out (T2.out.mono (by simp))).mono ?_; rintro e w4 ⟨rfl, r1, r2, r3⟩; have R1 := Lib.hid r1; have R2 := Lib.hid r2; have R3 := Lib.hid r3; clear r1 r2 r3) | (go_at_call 52; refine (TOOK.out _ _ R1.out OK9.out R3.out R2.out).mono ?_; rintro e w5 ⟨rfl, r1, r2⟩; have Z1 := Lib.hid r1; have Z2 := Lib.hid r2; clear r1 r2))
          go_ret
          rw [E.out]
          exact ⟨rfl, Z1.out, Z2.out⟩
        · have hw1 : (ew != 0) = true := by simp [hwz]
          have e9 : S.write (LogS.nats ws) = (ew, { S with disk := D9, dead := S.dead || ew == 6 }) := by
            unfold LogS.write; rw [if_pos (by rw [hew]; exact hwz), hew]; unfold LogS.told; rw [hew, hD9]
          rw [e9] at E
          clear e9 hew hD9
          go_wp2_with (first | (go_at_call 50; refine (WR.out _ H2.out (T2.out.mono (by simp))).mono ?_; rintro e w4 ⟨rfl, r1, r2, r3⟩; have R1 := Lib.hid r1; have R2 := Lib.hid r2; clear r1 r2 r3) | (go_at_call 51; refine (told_any R1.out ew).mono ?_; rintro e w5 ⟨rfl, r1, r2⟩; have Z1 := Lib.hid r1; have Z2 := Lib.hid (R2.out.trans (r2.mono (by simp))); clear r1 r2))
          go_ret
          rw [E.out]
          exact ⟨rfl, Z1.out, Z2.out⟩
  · have hz' : (em != 0) = true := by simp [hz]
    have e : S.commit ws = (em, S) := by unfold LogS.commit; rw [if_pos (by rw [hem]; exact hz), hem]
    have E := Lib.hid e
    clear e hem
    go_enter Tryz.func17, Tryz.ntmps17
    go_wp2_with (go_at_call 49; refine CM.out.mono ?_; rintro e w1 ⟨rfl, q1⟩; have T1 := Lib.hid q1; clear q1)
    go_ret
    rw [E.out]
    exact ⟨rfl, H.out.touch T1.out (by simp) (by simp) (by simp) (by simp) (by simp), T1.out.mono (by simp)⟩
end Go.Proofs.YthbaipljlbddcaaGreat
