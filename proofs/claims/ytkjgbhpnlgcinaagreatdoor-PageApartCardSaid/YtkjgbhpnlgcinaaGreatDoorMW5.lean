/-
  What lies on a disk: package wal's Open.
-/
import Derived.Test.YtkjgbhpnlgcinaaGreatDoorMW4
import Derived.Test.YtkjgbhpnlgcinaaGreatDoorMQ
import Derived.Test.YtkjgbhpnlgcinaaGreatDoorMD3
namespace Go.Cib
open Go Go.RowKit
namespace LogS
theorem chooses_keep (S : LogS) (i : Nat) (s : Sec) : (S.chooses i s).disk = S.disk ∧ (S.chooses i s).used = S.used ∧ (S.chooses i s).records = S.records ∧ (S.chooses i s).over = S.over ∧ (S.chooses i s).dead = S.dead := by
  unfold LogS.chooses; split <;> exact ⟨rfl, rfl, rfl, rfl, rfl⟩
/-- What a head that counts says. -/
structure HeadOk (S : LogS) : Prop where
  log3 : 3 ≤ S.log
  log4 : S.log ≤ 4000
  pages1 : 1 ≤ S.pages
  pages2 : S.pages ≤ 16384
  size : 2 + S.log + S.pages = S.disk.lasts.length
  gen : S.gen < 18446744073709551616
theorem chooses_ok (S : LogS) (i : Nat) (s : Sec) (h : S.gen = 0 ∨ S.HeadOk) : (S.chooses i s).gen = 0 ∨ (S.chooses i s).HeadOk := by
  unfold LogS.chooses
  split
  · rename_i hc
    obtain ⟨_, _, _, _, _, _, h1, h2, h3, h4, h5, _⟩ := hc
    exact .inr ⟨h1, h2, h3, h4, h5, (parse_ok s).gen⟩
  · exact h
theorem overs_sup {N : Nat} (ws : List (Nat × Page)) (h : ∀ q ∈ ws, q.1 < N) : ∀ (o : Int → Option Page), (∀ i x, o i = some x → 0 ≤ i ∧ i < N) → ∀ i x, overs o ws i = some x → 0 ≤ i ∧ i < N := by
  induction ws with
  | nil => exact fun o ho => ho
  | cons q ws ih =>
    intro o ho
    refine ih (fun r hr => h r (List.mem_cons_of_mem _ hr)) _ ?_
    intro i x hx
    change (if i = (q.1 : Int) then some q.2 else o i) = some x at hx
    by_cases e : i = (q.1 : Int)
    · have := h q (by simp); omega
    · rw [if_neg e] at hx; exact ho i x hx
theorem Ok.took {S : LogS} (h : S.Ok) {ws : List (Nat × Page)} (hu : S.used + ws.length + 2 ≤ S.log) (hw : ∀ q ∈ ws, q.1 < S.pages) : (S.took ws).Ok :=
  ⟨h.log3, h.log4, h.pages1, h.pages2, h.size, hu, by have := h.records; show S.records + 1 ≤ S.used + ws.length + 2; omega, h.gen, overs_sup ws hw S.over h.over⟩
theorem record_some {S : LogS} {ws : List (Nat × Page)} (h : S.record = some ws) : 1 ≤ ws.length ∧ S.used + ws.length + 2 ≤ S.log ∧ ∀ q ∈ ws, q.1 < S.pages := by
  unfold LogS.record at h
  split at h
  · rename_i hc
    have e : S.images (S.atF S.used) = ws := Option.some.inj h
    have hl : ws.length = (S.atF S.used).idx := by rw [← e]; simp [LogS.images]
    refine ⟨by omega, by omega, fun q hq => ?_⟩
    rw [← e] at hq
    obtain ⟨k, hk, rfl⟩ := List.mem_map.1 hq
    have hls := hc.2.2.2.2.1
    unfold LogS.listed at hls
    simp only [Bool.and_eq_true, decide_eq_true_eq] at hls
    exact hls.1.1 _ (List.mem_map.2 ⟨k, hk, rfl⟩)
  · cases h
/-- One record more, or none. -/
theorem runs_succ (n : Nat) (S : LogS) : S.runs (n + 1) = match S.record with | none => S | some w => (S.took w).runs n := rfl
theorem runs_ok : ∀ (n : Nat) (S : LogS), S.Ok → (S.runs n).Ok ∧ (S.runs n).disk = S.disk
  | 0, S, h => ⟨h, rfl⟩
  | n + 1, S, h => by
    rw [runs_succ]
    cases hr : S.record with
    | none => exact ⟨h, rfl⟩
    | some w =>
      obtain ⟨h1, h2, h3⟩ := record_some hr
      obtain ⟨k1, k2⟩ := runs_ok n (S.took w) (h.took h2 h3)
      exact ⟨k1, k2⟩
/-- Enough rounds are enough. -/
theorem runs_stop : ∀ (n : Nat) (S : LogS), S.record = none → S.runs n = S
  | 0, _, _ => rfl
  | n + 1, S, h => by rw [runs_succ, h]
end LogS
end Go.Cib
namespace Go.Proofs.YtkjgbhpnlgcinaaGreatDoor
open Go.RowKit Go.Cib
theorem RecOk.of {S : LogS} (h : S.Ok) (hd : S.disk.dead = false) : RecOk S :=
  ⟨hd, by have := h.size; omega, h.log4, h.used, by have := h.records; have := h.used; have := h.log4; omega, h.pages2⟩
end Go.Proofs.YtkjgbhpnlgcinaaGreatDoor
/-
  What lies on a disk: package wal's Open.
-/
namespace Go.Proofs.YtkjgbhpnlgcinaaGreatDoor
open Go.RowKit Go.Cib
/-- The log behind so many heads. -/
def headsN (D : DiskS) : Nat → LogS
  | 0 => LogS.blank D
  | 1 => (LogS.blank D).chooses 0 (D.read 0).1
  | _ => LogS.heads D
theorem headsN_succ (D : DiskS) (k : Nat) (hk : k < 2) : headsN D (k + 1) = (headsN D k).chooses k (D.read (k : Nat)).1 := by
  match k, hk with
  | 0, _ => rfl
  | 1, _ => rfl
theorem headsN_keep (D : DiskS) (k : Nat) : (headsN D k).disk = D ∧ (headsN D k).used = 0 ∧ (headsN D k).records = 0 ∧ (headsN D k).over = (fun _ => none) ∧ (headsN D k).dead = false := by
  match k with
  | 0 => exact ⟨rfl, rfl, rfl, rfl, rfl⟩
  | 1 => exact LogS.chooses_keep _ _ _
  | n + 2 =>
    obtain ⟨a1, a2, a3, a4, a5⟩ := LogS.chooses_keep (LogS.blank D) 0 (D.read 0).1
    obtain ⟨b1, b2, b3, b4, b5⟩ := LogS.chooses_keep ((LogS.blank D).chooses 0 (D.read 0).1) 1 (D.read 1).1
    exact ⟨b1.trans a1, b2.trans a2, b3.trans a3, b4.trans a4, b5.trans a5⟩
theorem heads_ok (D : DiskS) (hg : (LogS.heads D).gen ≠ 0) : (LogS.heads D).Ok := by
  obtain ⟨h1, h2, h3, h4, h5⟩ := headsN_keep D 2
  have h := LogS.chooses_ok _ 1 (D.read 1).1 (LogS.chooses_ok (LogS.blank D) 0 (D.read 0).1 (.inl rfl))
  rcases h with h | h
  · exact absurd h hg
  · exact ⟨h.log3, h.log4, h.pages1, h.pages2, h.size, by show (headsN D 2).used ≤ _; rw [h2]; omega, by show (headsN D 2).records ≤ _; rw [h3]; omega, h.gen, by
      intro i x hx
      have : (headsN D 2).over i = some x := hx
      rw [h4] at this
      cases this⟩
/-- What Open hands back. -/
def OpenOut (w : World) (d L M : Nat) (R : Int × Option LogS × DiskS) (e : Ending) (w' : World) : Prop :=
  Tch [d, L, M] w w' ∧ DiskAt w' d L M R.2.2 ∧ ((R.2.1 = none ∧ e = .returned (.tuple #[.pointer none, .int .i64 R.1])) ∨
    ∃ S g V, R.2.1 = some S ∧ e = .returned (.tuple #[.pointer (some ⟨g, 0, none⟩), .int .i64 0]) ∧ R.1 = 0 ∧ LogAt w' g d L M V S ∧ S.Ok ∧ w.heap.size ≤ g ∧ w.heap.size ≤ V)

set_option maxRecDepth 20000 in
set_option maxHeartbeats 2000000 in
theorem open_any {w : World} {d L M : Nat} {D : DiskS} (h : DiskAt w d L M D) :
    Calls Tryz.prog 37 #[.pointer (some ⟨d, 0, none⟩)] w fun e w' => OpenOut w d L M (LogS.opens D) e w' := by
  have H := Lib.hid h
  have hdw := lt_of_heap h.hd
  have hLw := lt_of_heap h.hL
  have hMw := h.hM.lt
  clear h
  go_enter Tryz.func37, Tryz.ntmps37
  go_upto_region 4 with ((with_reducible apply wc_makeMap kInt); intro hm; have HMP := Lib.hid hm; clear hm; go_frame)
  obtain ⟨V, hV⟩ : ∃ V, w.heap.size = V := ⟨_, rfl⟩
  obtain ⟨g, hg⟩ : ∃ g, V + 1 = g := ⟨_, rfl⟩
  obtain ⟨W, hW⟩ : ∃ W, (w.alloc (.map #[] 0)).alloc (.cells #[.pointer (some ⟨d, 0, none⟩), .int .i64 0, .int .i64 0, .int .u64 0, .int .i64 0, .int .u64 0, .map (some w.heap.size), .bool false] 120) = W := ⟨_, rfl⟩
  have tW : Tch [] w W := by rw [← hW]; exact ((Tch.refl _ _).alloc _).alloc _
  have bg : W.heap[g]? = some (.cells #[.pointer (some ⟨d, 0, none⟩), .int .i64 0, .int .i64 0, .int .u64 0, .int .i64 0, .int .u64 0, .map (some V), .bool false] 120) := by
    rw [← hW, ← hg, ← hV, heap_alloc, if_pos (by simp)]
  have hm1 : MapAt kInt W V (fun _ => none) := by rw [← hW, ← hV]; exact HMP.out.touch ((Tch.refl [] _).alloc _) (by simp)
  have hl0 : LogAt W g d L M V (LogS.blank D) := ⟨bg, H.out.touch tW (by simp) (by simp) (by simp), hm1, by omega, by omega, by omega, by omega, by omega, by omega, by omega⟩
  rw [hW, hV, hg]
  have HL0 := Lib.hid hl0
  have TW := Lib.hid tW
  have HV := Lib.hid hV
  clear hW tW bg hm1 hl0 HMP
  go_wp2_with fail
  go_loopg [17] 2 (fun q i wr => ∃ k, OnAt 2 i q k ∧ LogAt wr g d L M V (headsN D k) ∧ Tch [g] W wr ∧ (1 ≤ k → (D.read 0).2 = 0) ∧ (2 ≤ k → (D.read 1).2 = 0))
  case atStart => exact ⟨0, ⟨by omega, rfl, rfl⟩, HL0.out, Tch.refl _ _, by omega, by omega⟩
  case round =>
    obtain ⟨k, ⟨hk, rfl, rfl⟩, hl, ht, hr0, hr1⟩ := hrel
    have hkd := (headsN_keep D k).1
    have hDk : DiskAt wr d L M D := by have := hl.hD; rw [hkd] at this; exact this
    have LK := Lib.hid hl
    have TK := Lib.hid ht
    have DK := Lib.hid hDk
    have R0 := Lib.hid hr0
    have R1 := Lib.hid hr1
    clear hl ht hr0 hr1 hkd hDk
    by_cases hk2 : k < 2
    · obtain ⟨s, hs⟩ : ∃ s, (D.read (k : Nat)).1 = s := ⟨_, rfl⟩
      obtain ⟨er, her⟩ : ∃ er, (D.read (k : Nat)).2 = er := ⟨_, rfl⟩
      have RD : Hid (Calls Tryz.prog 75 #[.pointer (some ⟨d, 0, none⟩), .int .i64 k] wr fun e w' => e = .returned (.tuple #[.agg (secA s), .int .i64 er]) ∧ Tch [] wr w') := by
        rw [← hs, ← her]; exact read_any DK.out (k : Nat)
      by_cases hz : er = 0
      · subst hz
        have HS := Lib.hid hs
        have HER := Lib.hid her
        clear hs her
        go_upto_region 10 with (first | (go_at_call 75; refine RD.out.mono ?_; rintro e w2 ⟨rfl, q1⟩; have T2 := Lib.hid q1; clear q1) | ((with_reducible refine wc_alloc_arr secT ?_); go_frame; (try simp only [World.size_alloc])) | ((with_reducible apply wc_store_new secT); exact rfl; exact rfl; go_frame))
        obtain ⟨w3, hw3⟩ : ∃ w3, w2.alloc (.cells (secA s) 124) = w3 := ⟨_, rfl⟩
        have t3 : Tch [] wr w3 := by rw [← hw3]; exact T2.out.alloc _
        have b3 : w3.heap[w2.heap.size]? = some (.cells (secA s) 124) := by rw [← hw3]; exact heap_alloc_new _ _
        rw [hw3]
        have B3 := Lib.hid b3
        have CH : Hid (Calls Tryz.prog 76 #[.pointer (some ⟨g, 0, none⟩), .int .i64 k, .agg (secA s)] w3 fun e w' => e = .returned (.tuple #[]) ∧ LogAt w' g d L M V (headsN D (k + 1)) ∧ Tch [g] wr w') := by
          rw [headsN_succ D k hk2, HS.out]
          exact (chooses_any (LK.out.touch t3 (by simp) (by simp) (by simp) (by simp) (by simp)) k hk2 s).mono (by rintro e w' ⟨q1, q2, q3⟩; exact ⟨q1, q2, (t3.mono (by simp)).trans q3⟩)
        clear hw3 t3 b3
        go_wp2_with (first | ((with_reducible apply wc_load_var secT B3.out); exact rfl; go_frame) | (go_at_call 76; refine CH.out.mono ?_; rintro e w4 ⟨rfl, q1, q2⟩; have Q1 := Lib.hid q1; have Q2 := Lib.hid q2; clear q1 q2))
        go_roundg (2 - (k + 1))
        case measure => omega
        case rel =>
          refine ⟨k + 1, ⟨by omega, by go_num, rfl⟩, Q1.out, TK.out.trans Q2.out, fun _ => ?_, fun h2 => ?_⟩
          · rcases Nat.eq_zero_or_pos k with h0 | h0
            · subst h0; exact HER.out
            · exact R0.out h0
          · have : k = 1 := by omega
            subst this
            exact HER.out
      · have hz' : (er != 0) = true := by simp [hz]
        have ho : LogS.opens D = (er, none, D) := by
          unfold LogS.opens
          rcases Nat.eq_zero_or_pos k with h0 | h0
          · subst h0
            rw [if_pos (by rw [show ((0 : Nat) : Int) = 0 from rfl] at her; rw [her]; exact hz)]
            rw [show ((0 : Nat) : Int) = 0 from rfl] at her
            rw [her]
          · have h1 : k = 1 := by omega
            subst h1
            rw [show ((1 : Nat) : Int) = 1 from rfl] at her
            rw [if_neg (by rw [R0.out (by omega)]; simp), if_pos (by rw [her]; exact hz), her]
        have HO := Lib.hid ho
        clear hs her ho
        go_wp2_with (first | (go_at_call 75; refine RD.out.mono ?_; rintro e w2 ⟨rfl, q1⟩; have T2 := Lib.hid q1; clear q1) | ((with_reducible refine wc_alloc_arr secT ?_); go_frame; (try simp only [World.size_alloc])) | ((with_reducible apply wc_store_new secT); exact rfl; exact rfl; go_frame))
        go_ret2
        rw [HO.out]
        have t9 : Tch [] w (w2.alloc (.cells (secA s) 124)) := tch_own TW.out (TK.out.trans ((T2.out.alloc _).mono (by simp))) (by have := HV.out; simp; omega)
        exact ⟨t9.mono (by simp), H.out.touch t9 (by simp) (by simp) (by simp), .inl ⟨rfl, rfl⟩⟩
    · have hk' : k = 2 := by omega
      subst hk'
      have e0 := R0.out (by omega)
      have e1 := R1.out (by omega)
      have ho : LogS.opens D = if (LogS.heads D).gen = 0 then (80, none, D) else
          if ((LogS.heads D).runs (LogS.heads D).log).checkpoint.1 ≠ 0 then (((LogS.heads D).runs (LogS.heads D).log).checkpoint.1, none, ((LogS.heads D).runs (LogS.heads D).log).checkpoint.2.disk)
          else (0, some ((LogS.heads D).runs (LogS.heads D).log).checkpoint.2, ((LogS.heads D).runs (LogS.heads D).log).checkpoint.2.disk) := by
        unfold LogS.opens
        rw [if_neg (by rw [e0]; simp), if_neg (by rw [e1]; simp)]
      have hdead : D.dead = false := by
        cases hd : D.dead with
        | false => rfl
        | true =>
          exfalso
          unfold DiskS.read DiskS.may at e0
          rw [hd] at e0
          simp at e0
      have c3 := LK.out.cell 3 rfl
      have HO := Lib.hid ho
      have HDD := Lib.hid hdead
      have t2w : Tch [] w wr := tch_own TW.out TK.out (by have := HV.out; simp; omega)
      have T2W := Lib.hid t2w
      clear e0 e1 ho hdead t2w
      by_cases hgz : (LogS.heads D).gen = 0
      · rw [if_pos hgz] at HO
        have hgb : (((headsN D 2).gen : Int) == 0) = true := by simp; exact hgz
        clear hgz
        go_wp2_with fail
        go_ret2
        rw [HO.out]
        exact ⟨T2W.out.mono (by simp), DK.out, .inl ⟨rfl, rfl⟩⟩
      · rw [if_neg hgz] at HO
        have hgb : (((headsN D 2).gen : Int) == 0) = false := by simp; exact hgz
        have OK0 := Lib.hid (heads_ok D hgz)
        clear hgz
        go_wp2_with fail
        obtain ⟨N, hN⟩ : ∃ N, (LogS.heads D).log = N := ⟨_, rfl⟩
        have HN := Lib.hid hN
        obtain ⟨R, hR⟩ : ∃ R, (LogS.heads D).runs (LogS.heads D).log = R := ⟨_, rfl⟩
        rw [hR] at HO
        obtain ⟨okR, dR⟩ := LogS.runs_ok (LogS.heads D).log (LogS.heads D) OK0.out
        rw [hR] at okR dR
        have OKR := Lib.hid okR
        have HR := Lib.hid hR
        have hus0 := (headsN_keep D 2).2.1
        have H20 := Lib.hid (headsN_keep D 2)
        clear hN hR okR dR hgb c3
        go_loopg [8] N (fun q _ w' => ∃ S' n, q = S'.log - S'.used ∧ LogAt w' g d L M V S' ∧ S'.Ok ∧ S'.disk = D ∧ R = S'.runs n ∧ S'.log - S'.used ≤ n ∧ Tch [g, V] wr w')
        case atStart =>
          refine ⟨headsN D 2, N, ?_, LK.out, OK0.out, H20.out.1, ?_, ?_, Tch.refl _ _⟩
          · show N = (LogS.heads D).log - (headsN D 2).used; rw [H20.out.2.1, HN.out]; rfl
          · rw [← HR.out, HN.out]; rfl
          · show (LogS.heads D).log - _ ≤ _; rw [HN.out]; omega
        case round =>
          obtain ⟨S', n, rfl, hl, hok, hdk, hruns, hn, ht⟩ := hrel
          have RC := Lib.hid (record_any hl (RecOk.of hok (by rw [hdk]; exact HDD.out)))
          have LS := Lib.hid hl
          have OKS := Lib.hid hok
          have HDK := Lib.hid hdk
          have HRU := Lib.hid hruns
          have TS := Lib.hid ht
          clear hl hok hdk hruns ht
          cases hrec : S'.record with
          | none =>
            have RN := Lib.hid (RC.out.mono (R' := fun e w' => e = .returned (.tuple #[.bool false, .int .i64 0]) ∧ Tch [] wr w') (by
              rintro e w' (⟨_, h1, h2⟩ | ⟨ws, h0, _⟩)
              · exact ⟨h1, h2⟩
              · rw [hrec] at h0; cases h0))
            have hRS : R = S' := by rw [HRU.out, LogS.runs_stop n S' hrec]
            clear RC hrec
            obtain ⟨ec, hec⟩ : ∃ ec, S'.checkpoint.1 = ec := ⟨_, rfl⟩
            rw [hRS] at HO
            rw [hec] at HO
            have CK : Hid (∀ w5, LogAt w5 g d L M V S' → Calls Tryz.prog 78 #[.pointer (some ⟨g, 0, none⟩)] w5 fun e w' => e = .returned (.int .i64 ec) ∧ LogAt w' g d L M V S'.checkpoint.2 ∧ Tch [g, d, L, M, V] w5 w') := fun w5 h5 => by
              rw [← hec]; exact checkpoint_any h5 OKS.out
            have OKC := Lib.hid OKS.out.checkpoint
            clear hRS hec
            by_cases hz : ec = 0
            · subst hz
              rw [if_neg (by simp)] at HO
              go_wp2_with (first | (go_at_call 77; refine RN.out.mono ?_; rintro e w5 ⟨rfl, q1⟩; have T5 := Lib.hid q1; have L5 := Lib.hid (LS.out.touch q1 (by simp) (by simp) (by simp) (by simp) (by simp)); clear q1) | (go_at_call 78; refine (CK.out _ L5.out).mono ?_; rintro e w6 ⟨rfl, q1, q2⟩; have L6 := Lib.hid q1; have T6 := Lib.hid q2; clear q1 q2))
              go_ret2
              rw [HO.out]
              have hv := HV.out
              refine ⟨?_, L6.out.hD, .inr ⟨_, g, V, rfl, rfl, rfl, L6.out, OKC.out, by omega, by omega⟩⟩
              exact (((T2W.out.mono (S' := [g, V, d, L, M]) (by simp)).trans ((TS.out.mono (by simp)).trans ((T5.out.mono (by simp)).trans (T6.out.mono (by simp))))).drop (by intro x hx; simp at hx ⊢; omega))
            · have hz' : (ec != 0) = true := by simp [hz]
              rw [if_pos hz] at HO
              go_wp2_with (first | (go_at_call 77; refine RN.out.mono ?_; rintro e w5 ⟨rfl, q1⟩; have T5 := Lib.hid q1; have L5 := Lib.hid (LS.out.touch q1 (by simp) (by simp) (by simp) (by simp) (by simp)); clear q1) | (go_at_call 78; refine (CK.out _ L5.out).mono ?_; rintro e w6 ⟨rfl, q1, q2⟩; have L6 := Lib.hid q1; have T6 := Lib.hid q2; clear q1 q2))
              go_ret2
              rw [HO.out]
              have hv := HV.out
              refine ⟨?_, L6.out.hD, .inl ⟨rfl, rfl⟩⟩
              exact (((T2W.out.mono (S' := [g, V, d, L, M]) (by simp)).trans ((TS.out.mono (by simp)).trans ((T5.out.mono (by simp)).trans (T6.out.mono (by simp))))).drop (by intro x hx; simp at hx ⊢; omega))
          | some ws =>
            have RS := Lib.hid (RC.out.mono (R' := fun e w' => e = .returned (.tuple #[.bool true, .int .i64 0]) ∧ LogAt w' g d L M V (S'.took ws) ∧ Tch [g, V] wr w') (by
              rintro e w' (⟨h0, _⟩ | ⟨ws', h0, h1, h2, h3⟩)
              · rw [hrec] at h0; cases h0
              · rw [hrec] at h0; cases h0; exact ⟨h1, h2, h3⟩))
            obtain ⟨k1, k2, k3⟩ := LogS.record_some hrec
            have hn1 : ∃ n', n = n' + 1 := ⟨n - 1, by omega⟩
            obtain ⟨n', rfl⟩ := hn1
            have hru2 : R = (S'.took ws).runs n' := by rw [HRU.out, LogS.runs_succ, hrec]
            have HRU2 := Lib.hid hru2
            have K3 := Lib.hid k3
            clear RC hrec hru2 k3
            go_wp2_with (go_at_call 77; refine RS.out.mono ?_; rintro e w5 ⟨rfl, q1, q2⟩; have L5 := Lib.hid q1; have T5 := Lib.hid q2; clear q1 q2)
            go_roundg ((S'.took ws).log - (S'.took ws).used)
            case measure => show S'.log - (S'.used + ws.length + 2) < S'.log - S'.used; omega
            case rel => exact ⟨S'.took ws, n', rfl, L5.out, OKS.out.took k2 K3.out, HDK.out, HRU2.out, by show S'.log - (S'.used + ws.length + 2) ≤ n'; omega, TS.out.trans T5.out⟩
end Go.Proofs.YtkjgbhpnlgcinaaGreatDoor
/-
  Small laws, for any program: a region whose order is open, by an invariant over what was done, each step with its operands said.
-/
namespace Go.Cib
open Go Go.RowKit
theorem fullOf_eval {a0 : Act} {l : List Oper} {n : Nat} {vs : Nat → Value} (hB : invB l.toArray n = true) {t j : Nat} (ht : t < a0.tmps.size) (hj : headOf l.toArray n t = some j) : (fullOf a0 l n vs).eval (.tmp t) = vs j := by
  simp only [invB, Bool.and_eq_true, Bool.or_eq_true, decide_eq_true_eq] at hB
  obtain ⟨⟨⟨⟨_, hn⟩, _⟩, hhead⟩, _⟩ := hB
  have h := (putAll_agreeF (a0 := a0) (vs := vs) hhead (by simpa using hn)).tmps t ht
  rw [hj] at h
  have hl : (listedN l.toArray.size n).getD j false = true := by
    have := (headOf_some hj).1
    have hjl : j < l.length := by have := hn; simp at this; omega
    simp [listedN, hjl, this]
  simp only [hl, if_true] at h
  show (fullOf a0 l n vs).tmps.getD t undef = vs j
  rw [Array.getD_eq_getD_getElem?, h]
  rfl
theorem fullOf_old {a0 : Act} {l : List Oper} {n : Nat} {vs : Nat → Value} (hB : invB l.toArray n = true) {t : Nat} (ht : t < a0.tmps.size) (hj : headOf l.toArray n t = none) :
    (fullOf a0 l n vs).eval (.tmp t) = a0.tmps.getD t undef := by
  simp only [invB, Bool.and_eq_true, Bool.or_eq_true, decide_eq_true_eq] at hB
  obtain ⟨⟨⟨⟨_, hn⟩, _⟩, hhead⟩, _⟩ := hB
  have h := (putAll_agreeF (a0 := a0) (vs := vs) hhead (by simpa using hn)).tmps t ht
  rw [hj] at h
  show (fullOf a0 l n vs).tmps.getD t undef = _
  rw [Array.getD_eq_getD_getElem?, h]
  rfl
section
variable {P : Program} {Q : Exit → Act → World → Prop}
theorem wp_region_state {id : Nat} {a : Act} {w : World} {l : List Oper} (n : Nat) (Inv : Array Bool → (Nat → Value) → World → Prop) (hm : P.follows .mixedOrders = true) (hB : invB l.toArray n = true)
    (h0 : ∀ vs, Inv (Array.replicate l.toArray.size false) vs w.drew)
    (step : ∀ i o, i < n → l[i]? = some o → ∀ (listed : Array Bool) (vs : Nat → Value) (fu : Act) (w : World), Inv listed vs w → i < listed.size → listed.getD i false = false →
      (∀ t, t < a.tmps.size → headOf l.toArray n t = none → fu.eval (.tmp t) = a.tmps.getD t undef) →
      (∀ j t, t < a.tmps.size → Region.waitsFor .any l.toArray i j = true → headOf l.toArray n t = some j → listed.getD j false = true ∧ fu.eval (.tmp t) = vs j) →
      (Region.wanted o (yielded l.toArray fu.tmps) = true → StpR P (fun u w' => Inv (listed.setIfInBounds i true) (updV vs i u) w') ((execOp fu.eval o).run P w)) ∧
      (Region.wanted o (yielded l.toArray fu.tmps) = false → Inv (listed.setIfInBounds i true) (updV vs i undef) w))
    (tail : ∀ vs w', Inv (listedN l.toArray.size n) vs w' → wpList P l.toArray Q (l.drop n) (fullOf a l n vs) w') : (Code.region id l.toArray true).wp P Q a w :=
  wp_region_rel n Inv hm hB h0 (fun i o hi ho listed vs w hI hs hl hw => step i o hi ho listed vs (fullOf a l n vs) w hI hs hl (fun _ ht hh => fullOf_old hB ht hh) (fun j _ ht hw' hh => ⟨hw j hw', fullOf_eval hB ht hh⟩)) tail
end
/-- Values that are said; one variable that is made, and then written. -/
structure MadeOne (W : World) (val : Nat → Value) (ka ks : Nat) (zero full : Obj) (listed : Array Bool) (vs : Nat → Value) (w : World) : Prop where
  tch : Tch [] W w
  vals : ∀ j, j ≠ ka → j ≠ ks → listed.getD j false = true → vs j = val j
  ord : listed.getD ks false = true → listed.getD ka false = true
  made : listed.getD ka false = true → ∃ B, vs ka = .pointer (some ⟨B, 0, none⟩) ∧ W.heap.size ≤ B ∧ w.heap[B]? = some (if listed.getD ks false = true then full else zero)
theorem listed_set_ne {listed : Array Bool} {i j : Nat} (h : j ≠ i) : (listed.setIfInBounds i true).getD j false = listed.getD j false := by
  simp only [Array.getD_eq_getD_getElem?]
  rw [Array.getElem?_setIfInBounds_ne (Ne.symm h)]
theorem listed_set_eq {listed : Array Bool} {i : Nat} (h : i < listed.size) : (listed.setIfInBounds i true).getD i false = true := by simp [h]
namespace MadeOne
variable {W w w' : World} {val : Nat → Value} {ka ks : Nat} {zero full : Obj} {listed : Array Bool} {vs : Nat → Value}
theorem plain (h : MadeOne W val ka ks zero full listed vs w) (ht : Tch [] w w') {i : Nat} (hia : i ≠ ka) (his : i ≠ ks) : MadeOne W val ka ks zero full (listed.setIfInBounds i true) (updV vs i (val i)) w' := by
  refine ⟨h.tch.trans ht, fun j h1 h2 hl => ?_, fun hl => (by rw [listed_set_ne (Ne.symm his)] at hl; rw [listed_set_ne (Ne.symm hia)]; exact h.ord hl), fun hl => ?_⟩
  · unfold updV
    by_cases e : j = i
    · rw [if_pos e, e]
    · rw [if_neg e]; exact h.vals j h1 h2 (by rwa [listed_set_ne e] at hl)
  · rw [listed_set_ne (Ne.symm hia)] at hl
    obtain ⟨B, h1, h2, h3⟩ := h.made hl
    refine ⟨B, by unfold updV; rw [if_neg (Ne.symm hia)]; exact h1, h2, ?_⟩
    rw [listed_set_ne (Ne.symm his)]
    exact ht.heap h3 (by simp)
theorem alloc (h : MadeOne W val ka ks zero full listed vs w) (hak : ka ≠ ks) (hka : listed.getD ka false = false) (hsz : ka < listed.size) : MadeOne W val ka ks zero full (listed.setIfInBounds ka true) (updV vs ka (.pointer (some ⟨w.heap.size, 0, none⟩))) (w.alloc zero) := by
  have hks : listed.getD ks false = false := by
    cases hh : listed.getD ks false with
    | false => rfl
    | true => rw [h.ord hh] at hka; cases hka
  refine ⟨h.tch.alloc _, fun j h1 h2 hl => ?_, fun _ => listed_set_eq hsz, fun hl => ⟨w.heap.size, by simp [updV], h.tch.size, ?_⟩⟩
  · unfold updV
    rw [if_neg h1]; exact h.vals j h1 h2 (by rwa [listed_set_ne h1] at hl)
  · rw [listed_set_ne (Ne.symm hak), hks]
    exact heap_alloc_new _ _
theorem store (h : MadeOne W val ka ks zero full listed vs w) (hak : ka ≠ ks) (hs : ks < listed.size) (hla : listed.getD ka false = true) {B : Nat} (hv : vs ka = .pointer (some ⟨B, 0, none⟩)) (hB : W.heap.size ≤ B) (ht : Tch [B] w w') (hf : w'.heap[B]? = some full) (u : Value) :
    MadeOne W val ka ks zero full (listed.setIfInBounds ks true) (updV vs ks u) w' := by
  refine ⟨tch_own h.tch ht (by simpa using hB), fun j h1 h2 hl => ?_, fun _ => (by rw [listed_set_ne hak]; exact hla), fun _ => ⟨B, by unfold updV; rw [if_neg hak]; exact hv, hB, ?_⟩⟩
  · unfold updV
    rw [if_neg h2]; exact h.vals j h1 h2 (by rwa [listed_set_ne h2] at hl)
  · rw [listed_set_eq hs]; exact hf
end MadeOne
end Go.Cib
/-
  Small laws, for any program: a region whose order is open, in parts one behind the other: what is left of it from an operation on; parts that are forced, parts whose order is open.
-/
namespace Go.Cib
open Go Go.RowKit

/-- What is left of a region whose first n operations are done. -/
def RestAt (P : Program) (Q : Exit → Act → World → Prop) (l : List Oper) (n : Nat) (a : Act) (w : World) : Prop := wpAny P .any l.toArray Q (l.toArray.size - n) (listedN l.toArray.size n) a w
/-- From k on, g operations that are forced one behind the other. -/
def seqP (ops : Array Oper) : Nat → Nat → Array Bool → Bool
  | 0, _, _ => true
  | g + 1, k, listed => decide (Region.ready .any ops listed = [k]) && seqP ops g (k + 1) (listed.setIfInBounds k true)
def forcedB (ops : Array Oper) (n m : Nat) : Bool := decide (n ≤ m ∧ m ≤ ops.size) && seqP ops (m - n) n (listedN ops.size n)
def openB (ops : Array Oper) (n : Nat) : Bool := Region.noSelect ops && decide (n ≤ ops.size) && (decide (n = ops.size) || (Region.sinkB .any ops n && Region.chainB .any ops n)) && headB .any ops n
/-- A run that ends as it should, in X. -/
def endsIn (X : Act → World → Prop) : Exit → Act → World → Prop
  | .normal, a, w => X a w
  | _, _, _ => False
theorem letsOut_endsIn {X : Act → World → Prop} (h : LetsOut (endsIn X)) : False := by
  obtain ⟨a, w, h⟩ := h; exact h
theorem yielded_of {ops : Array Oper} {fu : Act} {g t : Nat} {b : Bool} (hd : (ops[g]?).bind (·.dst) = some t) (hv : fu.eval (.tmp t) = .bool b) : yielded ops fu.tmps g = some b := by
  have hv' : fu.tmps.getD t undef = .bool b := hv
  rw [Array.getD_eq_getD_getElem?] at hv'
  unfold yielded
  rw [hd]
  simp only [Option.bind_some]
  cases ht : fu.tmps[t]? with
  | none => rw [ht] at hv'; cases hv'
  | some v =>
    rw [ht] at hv'
    simp only [Option.getD_some] at hv'
    subst hv'
    rfl
/-- A step under a guard that lets it by; under one that does not. -/
theorem guard_by {o : Oper} {ops : Array Oper} {fu : Act} {g t : Nat} {b : Bool} {A C : Prop} (hg : o.guard = some (g, b)) (hd : (ops[g]?).bind (·.dst) = some t) (hv : fu.eval (.tmp t) = .bool b) (h : A) :
    (Region.wanted o (yielded ops fu.tmps) = true → A) ∧ (Region.wanted o (yielded ops fu.tmps) = false → C) := by
  have hw : Region.wanted o (yielded ops fu.tmps) = true := by
    unfold Region.wanted
    rw [hg]
    simp only [yielded_of hd hv, beq_self_eq_true]
  exact ⟨fun _ => h, fun hc => (by rw [hw] at hc; cases hc)⟩
theorem guard_past {o : Oper} {ops : Array Oper} {fu : Act} {g t : Nat} {b : Bool} {A C : Prop} (hg : o.guard = some (g, !b)) (hd : (ops[g]?).bind (·.dst) = some t) (hv : fu.eval (.tmp t) = .bool b) (h : C) :
    (Region.wanted o (yielded ops fu.tmps) = true → A) ∧ (Region.wanted o (yielded ops fu.tmps) = false → C) := by
  have hw : Region.wanted o (yielded ops fu.tmps) = false := by
    unfold Region.wanted
    rw [hg]
    simp only [yielded_of hd hv]
    cases b <;> rfl
  exact ⟨fun hc => (by rw [hw] at hc; cases hc), fun _ => h⟩
section
variable {P : Program} {Q : Exit → Act → World → Prop} {l : List Oper}
theorem upon_endsIn {o : Oper} {a : Act} {next : Act → World → Prop} {X : Act → World → Prop} {r : Result Next} (h : o.upon P a next (endsIn X) r) : o.upon P a next Q r := by
  cases r with
  | ok nx w =>
    cases nx with
    | enter f args =>
      rw [Oper.upon_enter] at h ⊢
      refine h.mono fun e w' h' => ?_
      cases e with
      | returned v => exact h'
      | panicked c => exact h'.elim
      | outgrown => exact (letsOut_endsIn h').elim
    | row r args => exact h
    | value v => exact h
    | skip => exact h
    | defer d => exact h
    | _ => exact h
  | halt x w =>
    cases x with
    | panic v => rw [Oper.upon_panic] at h; exact h.elim
    | _ => exact h
theorem wpOp_of_list {i : Nat} {o : Oper} {rest : List Oper} {a : Act} {w : World} {X : Act → World → Prop} {K : Act → World → Prop} (ho : l.toArray[i]? = some o) (h : wpList P l.toArray (endsIn X) (o :: rest) a w)
    (hK : ∀ a w, wpList P l.toArray (endsIn X) rest a w → K a w) : wpOp P l.toArray Q i K a w := by
  unfold wpOp
  simp only [ho]
  unfold wpList at h
  split at h
  · rename_i hw
    rw [if_pos hw]
    rcases h with h | ⟨_, h⟩
    · exact .inl (Oper.wp_mono hK (upon_endsIn h))
    · exact (letsOut_endsIn h).elim
  · rename_i hw
    rw [if_neg hw]
    exact hK _ _ h
/-- The region's start. -/
theorem rest_start {id : Nat} {a : Act} {w : World} (hm : P.follows .mixedOrders = true) (h : RestAt P Q l 0 a w.drew) : (Code.region id l.toArray true).wp P Q a w := by
  refine wp_region_any hm ?_
  unfold RestAt at h
  rw [← listedN_zero] at h
  exact h
/-- Operations that are forced one behind the other. -/
theorem rest_forced {n m : Nat} {a : Act} {w : World} (hB : forcedB l.toArray n m = true) (h : wpList P l.toArray (endsIn (RestAt P Q l m)) ((l.take m).drop n) a w) : RestAt P Q l n a w := by
  simp only [forcedB, Bool.and_eq_true, decide_eq_true_eq] at hB
  obtain ⟨⟨h1, h2⟩, hs⟩ := hB
  have key : ∀ (d n : Nat) (a : Act) (w : World), n + d = m → seqP l.toArray d n (listedN l.toArray.size n) = true → wpList P l.toArray (endsIn (RestAt P Q l m)) ((l.take m).drop n) a w → RestAt P Q l n a w := by
    intro d
    induction d with
    | zero =>
      intro n a w hn _ h
      have : n = m := by omega
      subst this
      rw [List.drop_of_length_le (by rw [List.length_take]; omega)] at h
      exact h
    | succ d ih =>
      intro n a w hn hs h
      simp only [seqP, Bool.and_eq_true, decide_eq_true_eq] at hs
      have hnl : n < l.toArray.size := by omega
      have hnl' : n < l.length := by simpa using hnl
      obtain ⟨o, ho⟩ : ∃ o, l[n]? = some o := ⟨_, List.getElem?_eq_getElem hnl'⟩
      have e1 : (l.take m).drop n = o :: (l.take m).drop (n + 1) := by
        rw [List.drop_eq_getElem_cons (by rw [List.length_take]; omega)]
        congr 1
        rw [List.getElem_take]
        exact (List.getElem?_eq_some_iff.1 ho).2
      rw [e1] at h
      unfold RestAt
      rw [show l.toArray.size - n = (l.toArray.size - (n + 1)) + 1 by omega]
      refine ⟨fun h1 => (by rw [hs.1] at h1; cases h1), fun i hi => ?_⟩
      rw [hs.1] at hi
      have hik : i = n := by simpa using hi
      subst hik
      refine wpOp_of_list (by simpa using ho) h fun a' w' h' => ?_
      rw [listedN_succ]
      exact ih (i + 1) a' w' (by omega) (by rw [← listedN_succ]; exact hs.2) h'
  exact key (m - n) n a w (by omega) hs h
/-- The region's end. -/
theorem rest_end {n : Nat} {a : Act} {w : World} (hB : Region.seqB .any l.toArray (l.toArray.size - n) n (listedN l.toArray.size n) = true) (h : wpList P l.toArray Q (l.drop n) a w) : RestAt P Q l n a w := by
  unfold RestAt
  have hdl : (l.drop n).length = l.toArray.size - n := by simp
  rw [← hdl]
  refine wpAny_of_seq (l.drop n) n _ _ w (fun j => by simp [List.getElem?_drop]) ?_ h
  rw [hdl]; exact hB

theorem headInv_from {n m : Nat} (hhead : headB .any l.toArray m = true) (hnm : n ≤ m) : HeadInv .any l.toArray m (listedN l.toArray.size n) := by
  refine ⟨by simp [listedN], fun j oj hj hl e he hb => ?_, fun t h1 h2 => ?_⟩
  · have hjs : j < l.length := by have := (Array.getElem?_eq_some_iff.1 hj).1; simpa using this
    have hjn : j < n := by simpa [listedN, hjs] using hl
    obtain ⟨o, ho, haft, _⟩ := headB_spec hhead (show j < m by omega)
    have : oj = o := by rw [ho] at hj; exact (Option.some.inj hj).symm
    subst this
    have hlt := haft e he hb
    have hes : e.on < l.length := by omega
    have : e.on < n := by omega
    simp [listedN, hes, this]
  · have h2' : t < l.length := by simpa using h2
    simp [listedN, h2']; omega
theorem any_rest {n : Nat} {Inv : Array Bool → (Nat → Value) → World → Prop} {a0 : Act} (hB : openB l.toArray n = true)
    (step : ∀ i o, i < n → l[i]? = some o → ∀ (listed : Array Bool) (vs : Nat → Value) (w : World), Inv listed vs w → i < listed.size → listed.getD i false = false → (∀ j, Region.waitsFor .any l.toArray i j = true → listed.getD j false = true) →
      (Region.wanted o (yielded l.toArray (fullOf a0 l n vs).tmps) = true → StpR P (fun u w' => Inv (listed.setIfInBounds i true) (updV vs i u) w') ((execOp (fullOf a0 l n vs).eval o).run P w)) ∧
      (Region.wanted o (yielded l.toArray (fullOf a0 l n vs).tmps) = false → Inv (listed.setIfInBounds i true) (updV vs i undef) w))
    (tail : ∀ vs w', Inv (listedN l.toArray.size n) vs w' → RestAt P Q l n (fullOf a0 l n vs) w') :
    ∀ (c : Nat) (listed : Array Bool) (vs : Nat → Value) (a : Act) (w : World), leftN n listed = c → HeadInv .any l.toArray n listed → Agree l.toArray n vs a0 listed a → Inv listed vs w →
      wpAny P .any l.toArray Q (c + (l.toArray.size - n)) listed a w := by
  simp only [openB, Bool.and_eq_true, Bool.or_eq_true, decide_eq_true_eq] at hB
  obtain ⟨⟨⟨hsel, hn⟩, hsink⟩, hhead⟩ := hB
  have hn' : n ≤ l.length := by simpa using hn
  have hall : ∀ j, j < n → (listedN l.toArray.size n).getD j false = true := by
    intro j hj
    have : j < l.length := by omega
    simp [listedN, this, hj]
  intro c
  induction c with
  | zero =>
    intro listed vs a w hc inv hag hw
    have h1 := leftN_zero hc
    have he := listed_eq inv.size h1 inv.tail
    subst he
    have hau := hag.unique (putAll_agreeF hhead hn')
    subst hau
    rw [Nat.zero_add]
    exact tail vs w hw
  | succ c ih =>
    intro listed vs a w hc inv hag hw
    obtain ⟨i0, g1, g2, g3⟩ := leftN_pos (n := n) (listed := listed) (by omega)
    have hin : i0 < listed.size := by rw [inv.size]; omega
    obtain ⟨o0, ho0, hon, _, _⟩ := headB_spec hhead g1
    have hready : i0 ∈ Region.ready .any l.toArray listed := mem_ready.2 ⟨getD_in hin g2, o0, ho0, fun e he hb => g3 _ (hon e he hb)⟩
    rw [show c + 1 + (l.toArray.size - n) = (c + (l.toArray.size - n)) + 1 by omega]
    refine ⟨fun h => (by rw [h] at hready; cases hready), fun i hi => ?_⟩
    have hilt : i < n := by
      rcases Nat.lt_or_ge i n with h | h
      · exact h
      · exfalso
        obtain ⟨hil, oi, hoi, _⟩ := mem_ready.1 hi
        have hisz : i < l.toArray.size := (Array.getElem?_eq_some_iff.1 hoi).1
        rcases hsink with hsz | ⟨hs, hch⟩
        · omega
        · exact tail_waits hs hch (by omega) inv _ i0 rfl g1 (getD_in hin g2) i h hi
    obtain ⟨hil, oi, hoi, hall'⟩ := mem_ready.1 hi
    obtain ⟨o, ho, _, hlk, hdst⟩ := headB_spec hhead hilt
    have hoo : oi = o := by rw [ho] at hoi; simpa using hoi.symm
    subst hoo
    have hil2 : i < listed.size := by rw [inv.size]; exact (Array.getElem?_eq_some_iff.1 ho).1
    have hwf : ∀ j, Region.waitsFor .any l.toArray i j = true → listed.getD j false = true := by
      intro j hj
      obtain ⟨oj, hoj, e, he, hb, hon'⟩ := Region.waitsFor_spec hj
      have : oj = oi := by rw [ho] at hoj; simpa using hoj.symm
      subst this
      have := hall' e he hb
      rw [hon'] at this
      exact this
    refine wpOp_stepR ho (Region.noSelect_spec hsel i oi · · ho) (fun t ht => frame_looks hag (putAll_agreeF hhead hn') hall fun j hj hd => hwf j (hlk t ht j hj hd)) (step i oi hilt (by simpa using ho) listed vs w hw hil2 (getD_both hil) hwf) (fun u w' hw' => ?_)
    have hag2 : Agree l.toArray n (updV vs i u) a0 listed a := hag.congr fun j hj => by
      have : j ≠ i := by rintro rfl; rw [getD_both hil] at hj; cases hj
      simp [updV, this]
    have hp := hag2.put ho hil2 hdst
    rw [show updV vs i u i = u by simp [updV]] at hp
    refine ih _ _ _ w' ?_ (inv.set hi hilt) hp hw'
    have := leftN_set (n := n) hilt hil2 (getD_both hil)
    omega

/-- What an operation of the region has left in a frame. -/
def ownOf (a : Act) (l : List Oper) (j : Nat) : Value := match (l[j]?).bind (·.dst) with | some t => a.tmps.getD t undef | none => undef
theorem putAll_own {a : Act} : ∀ (ops : List Oper) (vs : List Value), (∀ (k : Nat) o v t, ops[k]? = some o → vs[k]? = some v → o.dst = some t → v = a.tmps.getD t undef) → putAll a ops vs = a
  | [], _, _ => by unfold putAll; rfl
  | _ :: _, [], _ => by unfold putAll; rfl
  | o :: os, v :: vs, h => by
    have h0 := h 0 o v
    have e : a.put o.dst v = a := by
      cases hd : o.dst with
      | none => rfl
      | some t =>
        have hv := h0 t rfl rfl hd
        subst hv
        show ({ a with tmps := a.tmps.setIfInBounds t (a.tmps.getD t undef) } : Act) = a
        congr 1
        apply Array.ext_getElem?
        intro k
        rw [Array.getElem?_setIfInBounds]
        split
        · rename_i e; subst e
          split
          · rename_i hlt; simp [hlt]
          · rename_i hge; rw [Array.getElem?_eq_none (by omega)]
        · rfl
    rw [putAll, e]
    exact putAll_own os vs fun k o' v' t h1 h2 h3 => h (k + 1) o' v' t (by simpa using h1) (by simpa using h2) h3
/-- The frame when operations n .. m - 1 have given the values vs. -/
def fullFrom (a : Act) (l : List Oper) (n m : Nat) (vs : Nat → Value) : Act := putAll a ((l.take m).drop n) ((List.range' n (m - n)).map vs)
theorem fullOf_from {a : Act} {n m : Nat} {vs : Nat → Value} (hnm : n ≤ m) (hml : m ≤ l.length) (h : ∀ j, j < n → vs j = ownOf a l j) : fullOf a l m vs = fullFrom a l n m vs := by
  unfold fullOf fullFrom
  have e1 : List.range m = List.range n ++ List.range' n (m - n) := by
    obtain ⟨k, rfl⟩ := Nat.exists_eq_add_of_le hnm
    rw [List.range_eq_range', List.range_eq_range', Nat.add_sub_cancel_left]
    have := List.range'_append_1 (s := 0) (m := n) (n := k)
    rw [Nat.zero_add] at this
    exact this.symm
  have e2 : l.take m = l.take n ++ (l.take m).drop n := by
    have : l.take n = (l.take m).take n := by rw [List.take_take, Nat.min_eq_left hnm]
    rw [this, List.take_append_drop]
  rw [e1, List.map_append]
  conv => lhs; rw [e2]
  rw [putAll_append _ _ _ (by simp; omega)]
  rw [putAll_own (l.take n) ((List.range n).map vs) ?_]
  intro k o v t h1 h2 h3
  have hk : k < n := by
    rcases Nat.lt_or_ge k n with hk | hk
    · exact hk
    · rw [List.getElem?_eq_none (by simp; omega)] at h1; cases h1
  have hv : v = vs k := by
    rw [List.getElem?_map, List.getElem?_range hk] at h2
    exact (Option.some.inj h2).symm
  have ho : l[k]? = some o := by rw [List.getElem?_take, if_pos hk] at h1; exact h1
  rw [hv, h k hk]
  unfold ownOf
  rw [ho]
  simp [h3]

/-- Operations whose order is open: an invariant over what was done. -/
theorem rest_open {n m : Nat} {a : Act} {w : World} (Inv : Array Bool → (Nat → Value) → World → Prop) (hnm : n ≤ m) (hB : openB l.toArray m = true) (h0 : ∀ vs, Inv (listedN l.toArray.size n) vs w)
    (step : ∀ i o, n ≤ i → i < m → l[i]? = some o → ∀ (listed : Array Bool) (vs : Nat → Value) (fu : Act) (w : World), Inv listed vs w → i < listed.size → listed.getD i false = false →
      (∀ t, t < a.tmps.size → (headOf l.toArray m t).all (· < n) = true → fu.eval (.tmp t) = a.tmps.getD t undef) →
      (∀ j t, t < a.tmps.size → Region.waitsFor .any l.toArray i j = true → headOf l.toArray m t = some j → n ≤ j → listed.getD j false = true ∧ fu.eval (.tmp t) = vs j) →
      (Region.wanted o (yielded l.toArray fu.tmps) = true → StpR P (fun u w' => Inv (listed.setIfInBounds i true) (updV vs i u) w') ((execOp fu.eval o).run P w)) ∧
      (Region.wanted o (yielded l.toArray fu.tmps) = false → Inv (listed.setIfInBounds i true) (updV vs i undef) w))
    (tail : ∀ vs w', Inv (listedN l.toArray.size m) vs w' → RestAt P Q l m (fullFrom a l n m vs) w') : RestAt P Q l n a w := by
  have hB' := hB
  simp only [openB, Bool.and_eq_true, Bool.or_eq_true, decide_eq_true_eq] at hB'
  obtain ⟨⟨⟨hsel, hm⟩, hsink⟩, hhead⟩ := hB'
  have hm' : m ≤ l.length := by simpa using hm
  have hall : ∀ j, j < m → (listedN l.toArray.size m).getD j false = true := by
    intro j hj
    have : j < l.length := by omega
    simp [listedN, this, hj]
  have hag0 : Agree l.toArray m (ownOf a l) a (listedN l.toArray.size n) a := by
    refine ⟨rfl, rfl, fun t ht => ?_⟩
    have e : a.tmps[t]? = some (a.tmps.getD t undef) := by simp [ht]
    cases hh : headOf l.toArray m t with
    | none => exact e
    | some j =>
      have hd := (headOf_some hh).2
      have hd' : (l[j]?).bind (·.dst) = some t := by simpa using hd
      show a.tmps[t]? = some (if _ then ownOf a l j else _)
      unfold ownOf
      rw [hd']
      simp only [ite_self]
      exact e
  have hleft : leftN m (listedN l.toArray.size n) = m - n := by
    unfold leftN
    obtain ⟨k, rfl⟩ := Nat.exists_eq_add_of_le hnm
    rw [List.range_add, List.filter_append, List.length_append]
    rw [List.filter_eq_nil_iff.2 (fun j hj => by
      have hj' := List.mem_range.1 hj
      have : j < l.length := by omega
      simp [listedN, this, hj'])]
    rw [List.filter_eq_self.2 (fun j hj => by
      obtain ⟨x, hx, rfl⟩ := List.mem_map.1 hj
      have hx' := List.mem_range.1 hx
      have : n + x < l.length := by omega
      simp [listedN, this])]
    simp
  have hin0 : ∀ j, j < n → (listedN l.toArray.size n).getD j false = true := by
    intro j hj
    have : j < l.length := by omega
    simp [listedN, this, hj]
  have := any_rest (P := P) (Q := Q) (a0 := a) (Inv := fun listed vs w => (∀ j, j < n → listed.getD j false = true ∧ vs j = ownOf a l j) ∧ Inv listed vs w) hB ?_ ?_ (m - n) _ _ a w hleft (headInv_from hhead hnm) hag0 ⟨fun j hj => ⟨hin0 j hj, rfl⟩, h0 _⟩
  · unfold RestAt
    rwa [show m - n + (l.toArray.size - m) = l.toArray.size - n by omega] at this
  · rintro i o hi ho listed vs w' ⟨hown, hI⟩ hsz hun hw
    have hin : n ≤ i := by
      rcases Nat.lt_or_ge i n with h | h
      · rw [(hown i h).1] at hun; cases hun
      · exact h
    have hf := putAll_agreeF (a0 := a) (vs := vs) hhead hm'
    obtain ⟨s1, s2⟩ := step i o hin hi ho listed vs (fullOf a l m vs) w' hI hsz hun (fun t ht hh => by
      have h := hf.tmps t ht
      show (fullOf a l m vs).tmps.getD t undef = _
      rw [Array.getD_eq_getD_getElem?, h]
      cases hh2 : headOf l.toArray m t with
      | none => rfl
      | some j =>
        rw [hh2] at hh
        have hj : j < n := by simpa using hh
        have hjm := (headOf_some hh2).1
        have hd := (headOf_some hh2).2
        have hd' : (l[j]?).bind (·.dst) = some t := by simpa using hd
        simp only [hall j hjm, if_true, Option.getD_some]
        rw [(hown j hj).2]
        unfold ownOf
        rw [hd']) (fun j t ht hwf hh hj => ⟨hw j hwf, by
      have h := hf.tmps t ht
      rw [hh] at h
      have hjm := (headOf_some hh).1
      simp only [hall j hjm, if_true] at h
      show (fullOf a l m vs).tmps.getD t undef = vs j
      rw [Array.getD_eq_getD_getElem?, h]
      rfl⟩)
    have keep : ∀ u j, j < n → (listed.setIfInBounds i true).getD j false = true ∧ updV vs i u j = ownOf a l j := fun u j hj => by
      rw [getD_set_ne false (by omega : i ≠ j)]
      unfold updV
      rw [if_neg (by omega)]
      exact hown j hj
    refine ⟨fun hwn => ?_, fun hwn => ⟨keep _, s2 hwn⟩⟩
    have h3 := s1 hwn
    generalize (execOp (fullOf a l m vs).eval o).run P w' = r at h3
    cases r with
    | ok nx w2 =>
      cases nx <;> simp only [StpR] at h3 <;> try exact h3.elim
      case value u => exact ⟨keep _, h3⟩
      case skip => exact ⟨keep _, h3⟩
      case enter f args =>
        refine Calls.mono h3 ?_
        rintro e w3 ⟨u, rfl, h4⟩
        exact ⟨u, rfl, keep _, h4⟩
    | halt x w2 => exact h3.elim
  · rintro vs w' ⟨hown, hI⟩
    have := tail vs w' hI
    rwa [← fullOf_from hnm hm' fun j hj => (hown j hj).2] at this
/-- The same, each value known by a predicate that later operations keep. -/
theorem rest_vals {n m : Nat} {a : Act} {w : World} (C : World → Prop) (K : Nat → Value → World → Prop) (hnm : n ≤ m) (hB : openB l.toArray m = true) (h0 : C w)
    (mono : ∀ w w', C w → C w' → Tch [] w w' → ∀ i v, K i v w → K i v w')
    (step : ∀ i o, n ≤ i → i < m → l[i]? = some o → ∀ (fu : Act) (w' : World), C w' → (∀ t, t < a.tmps.size → (headOf l.toArray m t).all (· < n) = true → fu.eval (.tmp t) = a.tmps.getD t undef) →
      (∀ j t, t < a.tmps.size → Region.waitsFor .any l.toArray i j = true → headOf l.toArray m t = some j → n ≤ j → K j (fu.eval (.tmp t)) w') →
      (Region.wanted o (yielded l.toArray fu.tmps) = true → StpR P (fun u w'' => K i u w'' ∧ C w'' ∧ Tch [] w' w'') ((execOp fu.eval o).run P w')) ∧ (Region.wanted o (yielded l.toArray fu.tmps) = false → K i undef w'))
    (tail : ∀ vs w', C w' → (∀ j, n ≤ j → j < m → K j (vs j) w') → RestAt P Q l m (fullFrom a l n m vs) w') : RestAt P Q l n a w := by
  have hm : m ≤ l.length := by
    simp only [openB, Bool.and_eq_true, Bool.or_eq_true, decide_eq_true_eq] at hB
    simpa using hB.1.1.2
  refine rest_open (fun listed vs w => C w ∧ ∀ j, n ≤ j → j < m → listed.getD j false = true → K j (vs j) w) hnm hB (fun vs => ⟨h0, fun j h1 h2 h3 => ?_⟩) ?_ ?_
  · exfalso
    have : j < l.length := by omega
    simp [listedN, this] at h3
    omega
  · rintro i o hni him ho listed vs fu w' ⟨hC, hK⟩ hsz hun old new
    obtain ⟨s1, s2⟩ := step i o hni him ho fu w' hC old fun j t ht hw hh hj => by
      obtain ⟨h1, h2⟩ := new j t ht hw hh hj
      rw [h2]
      exact hK j hj (headOf_some hh).1 h1
    refine ⟨fun hw => (s1 hw).mono ?_, fun hw => ⟨hC, fun j h1 h2 hl => ?_⟩⟩
    · rintro u w'' ⟨k1, k2, k3⟩
      refine ⟨k2, fun j h1 h2 hl => ?_⟩
      unfold updV
      by_cases e : j = i
      · subst e; rw [if_pos rfl]; exact k1
      · rw [if_neg e]; exact mono _ _ hC k2 k3 _ _ (hK j h1 h2 (by rwa [getD_set_ne false (Ne.symm e)] at hl))
    · unfold updV
      by_cases e : j = i
      · subst e; rw [if_pos rfl]; exact s2 hw
      · rw [if_neg e]; exact hK j h1 h2 (by rwa [getD_set_ne false (Ne.symm e)] at hl)
  · rintro vs w' ⟨hC, hK⟩
    exact tail vs w' hC fun j h1 h2 => hK j h1 h2 (by
      have : j < l.length := by omega
      simp [listedN, this, h2])
end
end Go.Cib
/-
  Small laws, for any program: a region whose order is open, up to one call for which all before it is done: what is ahead of it is walked once, the call turns the world, the rest follows.
-/
namespace Go.Cib
open Go Go.RowKit
section
variable {P : Program} {Q : Exit → Act → World → Prop} {l : List Oper}
theorem looks_same {ops : Array Oper} {a full : Act} {o : Oper} (hs : ∀ cs b, o.op ≠ .select cs b) (hlook : ∀ t ∈ o.looksAt ops, a.tmps[t]? = full.tmps[t]?) :
    execOp a.eval o = execOp full.eval o ∧ Region.wanted o (yielded ops a.tmps) = Region.wanted o (yielded ops full.tmps) := by
  refine ⟨execOp_congr o hs fun x hx => eval_eq fun t ht => by
    subst ht
    exact getD_of_get (hlook t (looks_operand hx)), ?_⟩
  unfold Region.wanted
  cases hg : o.guard with
  | none => rfl
  | some gb =>
    obtain ⟨g, b⟩ := gb
    simp only [yielded]
    cases hd : (ops[g]?).bind (·.dst) with
    | none => rfl
    | some d =>
      simp only [Option.bind_some]
      rw [hlook d (looks_guard hg hd)]
theorem headB_less {ops : Array Oper} {c n : Nat} (h : headB .any ops n = true) (hc : c ≤ n) : headB .any ops c = true := by
  unfold headB at h ⊢
  rw [List.all_eq_true] at h ⊢
  intro i hi
  have hi' := List.mem_range.1 hi
  have h1 := h i (List.mem_range.2 (by omega))
  cases ho : ops[i]? with
  | none => simp [ho] at h1
  | some o =>
    simp only [ho, Bool.and_eq_true] at h1 ⊢
    obtain ⟨⟨g1, g2⟩, g3⟩ := h1
    refine ⟨⟨g1, ?_⟩, ?_⟩
    · rw [List.all_eq_true] at g2 ⊢
      intro t ht
      have := g2 t ht
      rw [List.all_eq_true] at this ⊢
      intro j hj
      exact this j (List.mem_range.2 (by have := List.mem_range.1 hj; omega))
    · cases hd : o.dst with
      | none => rfl
      | some d =>
        rw [hd] at g3
        simp only at g3 ⊢
        rw [List.all_eq_true] at g3 ⊢
        intro j hj
        exact g3 j (List.mem_range.2 (by have := List.mem_range.1 hj; omega))
theorem StpR.of_stp {K : World → Prop} {v : Value} {K' : Value → World → Prop} {r : Result Next} (h : Stp P K v r) (hk : ∀ w, K w → K' v w) : StpR P K' r := by
  cases r with
  | ok nx w =>
    cases nx <;> simp only [Stp, StpR] at h ⊢ <;> try exact h.elim
    case value u => obtain ⟨rfl, h⟩ := h; exact hk _ h
    case skip => obtain ⟨rfl, h⟩ := h; exact hk _ h
    case enter f args => exact Calls.mono h fun e w' ⟨he, hw⟩ => ⟨v, he, hk _ hw⟩
  | halt x w => exact h.elim
/-- The law. -/
theorem rest_gate {id : Nat} {a : Act} {w : World} (c : Nat) (C : World → Prop) (K : Value → World → Prop) (hm : P.follows .mixedOrders = true) (hG : gateB l.toArray (c + 1) = true) (h0 : C w.drew)
    (h : wpQuiet P l.toArray C (fun full => ∃ o, l[c]? = some o ∧ Region.wanted o (yielded l.toArray full.tmps) = true ∧ (∀ w', C w' → StpR P K ((execOp full.eval o).run P w')) ∧ ∀ u w', K u w' → RestAt P Q l (c + 1) (full.put o.dst u) w') (l.take c) a) :
    (Code.region id l.toArray true).wp P Q a w := by
  have hG' := hG
  simp only [gateB, Bool.and_eq_true, decide_eq_true_eq] at hG'
  obtain ⟨⟨⟨⟨hsel, hn⟩, hsink⟩, _⟩, hhead⟩ := hG'
  have hn' : c + 1 ≤ l.length := by have := hn.2; simpa using this
  have hheadc := headB_less (c := c) hhead (by omega)
  have hst : Agree l.toArray c (fun _ => undef) a (listedN l.toArray.size 0) a := by
    rw [← listedN_zero]; exact Agree.start _ _ _ _ _
  obtain ⟨v0, full, _, g2, ⟨oc, hoc, hwc, hcall, hrest⟩, g4⟩ := quiet_steps hsel hheadc (show c ≤ l.length by omega) c 0 _ a (by omega) hst (by simpa using h)
  refine wp_region_any hm ?_
  have inv0 : HeadInv .any l.toArray (c + 1) (Array.replicate l.toArray.size false) :=
    ⟨by simp, fun j oj _ hl => (by rw [getD_replicate_false] at hl; cases hl), fun t _ ht => getD_in (by simpa using ht) (getD_replicate_false _ _)⟩
  have hl0 : leftN (c + 1) (Array.replicate l.toArray.size false) = c + 1 := by
    unfold leftN
    rw [List.filter_eq_self.2 (fun j _ => by rw [getD_replicate_false]; rfl), List.length_range]
  -- what holds on the way
  let Inv : Array Bool → (Nat → Value) → World → Prop := fun listed vs w =>
    (∀ j i, listed.getD j false = true → Region.waitsFor .any l.toArray j i = true → listed.getD i false = true) ∧ (∀ j, j < c → listed.getD j false = true → vs j = v0 j) ∧
      (listed.getD c false = false → C w) ∧ (listed.getD c false = true → K (vs c) w)
  have hallc : ∀ listed : Array Bool, (∀ j i, listed.getD j false = true → Region.waitsFor .any l.toArray j i = true → listed.getD i false = true) → (∀ i, Region.waitsFor .any l.toArray c i = true → listed.getD i false = true) → ∀ i, i < c → listed.getD i false = true := by
    intro listed hcl hcw
    have key : ∀ d i, c - i = d → i < c → listed.getD i false = true := by
      intro d
      induction d using Nat.strongRecOn with
      | _ d ih =>
        intro i hd hi
        have h1 := List.all_eq_true.1 hsink i (List.mem_range.2 (by omega))
        obtain ⟨j, hj, hj2⟩ := List.any_eq_true.1 h1
        simp only [Bool.and_eq_true, decide_eq_true_eq] at hj2
        have hjn := List.mem_range.1 hj
        by_cases hjc : j = c
        · subst hjc; exact hcw i hj2.2
        · exact hcl j i (ih (c - j) (by omega) j rfl (by omega)) hj2.2
    exact fun i hi => key _ i rfl hi
  have hsame : ∀ (vs : Nat → Value) (listed : Array Bool) i o, i ≤ c → l[i]? = some o → (∀ j, j < c → listed.getD j false = true → vs j = v0 j) → (∀ j, Region.waitsFor .any l.toArray i j = true → listed.getD j false = true) →
      execOp (fullOf a l (c + 1) vs).eval o = execOp full.eval o ∧ Region.wanted o (yielded l.toArray (fullOf a l (c + 1) vs).tmps) = Region.wanted o (yielded l.toArray full.tmps) := by
    intro vs listed i o hi ho hv hw
    have hag := putAll_agreeF (a0 := a) (vs := vs) hhead hn'
    obtain ⟨o', ho', haft, hlk, _⟩ := headB_spec hhead (show i < c + 1 by omega)
    have : o' = o := by have h1 : l.toArray[i]? = some o := by simpa using ho
                        rw [h1] at ho'; exact (Option.some.inj ho').symm
    subst this
    refine looks_same (Region.noSelect_spec hsel i o' · · ho') fun t ht => ?_
    by_cases hts : t < a.tmps.size
    · rw [hag.tmps t hts, g2.tmps t hts]
      congr 1
      obtain ⟨m1, m2⟩ := headOf_more (ops := l.toArray) (t := t) (n1 := c) (n := c + 1) (by omega)
      cases hh : headOf l.toArray c t with
      | some j =>
        rw [m1 j hh]
        simp only
        have hjc := (headOf_some hh).1
        have hjl : j < l.length := by omega
        have e1 : (listedN l.toArray.size (c + 1)).getD j false = true := by simp [listedN, hjl]; omega
        have e2 : (listedN l.toArray.size c).getD j false = true := by simp [listedN, hjl, hjc]
        rw [e1, e2]
        simp only [if_true]
        exact hv j hjc (hw j (hlk t ht j (by omega) (headOf_some hh).2))
      | none =>
        cases hh2 : headOf l.toArray (c + 1) t with
        | none => rfl
        | some j =>
          exfalso
          have hj := headOf_some hh2
          have hjc : c ≤ j := m2 hh j hh2
          have hwj := hlk t ht j hj.1 hj.2
          obtain ⟨oj, hoj, e, he, hb, hon⟩ := Region.waitsFor_spec hwj
          have : oj = o' := by rw [ho'] at hoj; exact (Option.some.inj hoj).symm
          subst this
          have hlt := haft e he hb
          rw [hon] at hlt
          omega
    · rw [Array.getElem?_eq_none (by rw [hag.size]; exact Nat.le_of_not_lt hts), Array.getElem?_eq_none (by rw [g2.size]; exact Nat.le_of_not_lt hts)]
  have := any_rel_gate (P := P) (Q := Q) (Inv := Inv) (a0 := a) hG ?_ ?_ (c + 1) _ (fun _ => undef) a _ hl0 inv0 (Agree.start _ _ _ _ _) ⟨fun j i hl => (by rw [getD_replicate_false] at hl; cases hl), fun j _ hl => (by rw [getD_replicate_false] at hl; cases hl), fun _ => h0, fun hl => (by rw [getD_replicate_false] at hl; cases hl)⟩
  · rwa [show c + 1 + (l.toArray.size - (c + 1)) = l.toArray.size by omega] at this
  · rintro i o hi ho listed vs w' ⟨hcl, hv, hC, hK⟩ hsz hun hw
    obtain ⟨e1, e2⟩ := hsame vs listed i o (by omega) ho hv hw
    rw [e1, e2]
    have hclosed : ∀ j k, (listed.setIfInBounds i true).getD j false = true → Region.waitsFor .any l.toArray j k = true → (listed.setIfInBounds i true).getD k false = true := by
      intro j k hj hjk
      have hk : listed.getD k false = true := by
        by_cases e : j = i
        · subst e; exact hw k hjk
        · rw [getD_set_ne false (Ne.symm e)] at hj; exact hcl j k hj hjk
      by_cases e : k = i
      · subst e; exact listed_set_eq hsz
      · rw [getD_set_ne false (Ne.symm e)]; exact hk
    by_cases hic : i = c
    · subst hic
      have hol : o = oc := by rw [hoc] at ho; exact (Option.some.inj ho).symm
      subst hol
      have hCw := hC hun
      refine ⟨fun _ => (hcall w' hCw).mono fun u w'' hu => ⟨hclosed, fun j hj hl => ?_, fun hl => ?_, fun _ => ?_⟩, fun hf => by rw [hwc] at hf; cases hf⟩
      · unfold updV
        rw [if_neg (by omega)]
        rw [getD_set_ne false (by omega)] at hl
        exact hv j hj hl
      · rw [listed_set_eq hsz] at hl; cases hl
      · unfold updV; rw [if_pos rfl]; exact hu
    · have hic' : i < c := by omega
      have hcun : listed.getD c false = false := by
        cases hl : listed.getD c false with
        | false => rfl
        | true =>
          have := hallc listed hcl (fun k hk => hcl c k hl hk) i hic'
          rw [this] at hun; cases hun
      have hs := g4 i (by omega) hic' o ho
      have keep : ∀ u, u = v0 i → ∀ w'', C w'' → Inv (listed.setIfInBounds i true) (updV vs i u) w'' := by
        intro u hu w'' hw''
        refine ⟨hclosed, fun j hj hl => ?_, fun _ => hw'', fun hl => ?_⟩
        · unfold updV
          by_cases e : j = i
          · rw [if_pos e, e]; exact hu
          · rw [if_neg e]; rw [getD_set_ne false (Ne.symm e)] at hl; exact hv j hj hl
        · rw [getD_set_ne false (by omega), hcun] at hl; cases hl
      rcases hs with ⟨h1, h2⟩ | ⟨h1, h2⟩
      · exact ⟨fun hf => (by rw [h1] at hf; cases hf), fun _ => keep _ h2.symm _ (hC hcun)⟩
      · exact ⟨fun _ => StpR.of_stp (h2 w' (hC hcun)) fun w'' hw'' => keep _ rfl _ hw'', fun hf => (by rw [h1] at hf; cases hf)⟩
  · rintro vs w' hinv ⟨hcl, hv, hC, hK⟩
    have hcl' : (listedN l.toArray.size (c + 1)).getD c false = true := by
      have : c < l.length := by omega
      simp [listedN, this]
    have hKc := hK hcl'
    have hfull : fullOf a l (c + 1) vs = full.put oc.dst (vs c) := by
      have hag := putAll_agreeF (a0 := a) (vs := vs) hhead hn'
      have hag2 : Agree l.toArray (c + 1) vs a (listedN l.toArray.size (c + 1)) (full.put oc.dst (vs c)) := by
        have hA : Agree l.toArray (c + 1) vs a (listedN l.toArray.size c) full := by
          refine ⟨g2.defers, g2.size, fun t ht => ?_⟩
          rw [g2.tmps t ht]
          congr 1
          obtain ⟨m1, m2⟩ := headOf_more (ops := l.toArray) (t := t) (n1 := c) (n := c + 1) (by omega)
          cases hh : headOf l.toArray c t with
          | some j =>
            rw [m1 j hh]
            simp only
            have hjc := (headOf_some hh).1
            have hjl : j < l.length := by omega
            have e2 : (listedN l.toArray.size c).getD j false = true := by simp [listedN, hjl, hjc]
            have e1 : (listedN l.toArray.size (c + 1)).getD j false = true := by simp [listedN, hjl]; omega
            rw [e2]
            simp only [if_true]
            exact (hv j hjc e1).symm
          | none =>
            cases hh2 : headOf l.toArray (c + 1) t with
            | none => rfl
            | some j =>
              simp only
              have hj := m2 hh j hh2
              have hjl : j < l.length := by have := (headOf_some hh2).1; omega
              rw [if_neg]
              simp [listedN, hjl]
              omega
        obtain ⟨o', ho', _, _, hdst⟩ := headB_spec hhead (show c < c + 1 by omega)
        have : o' = oc := by have h1 : l.toArray[c]? = some oc := by simpa using hoc
                             rw [h1] at ho'; exact (Option.some.inj ho').symm
        subst this
        have hp := hA.put ho' (by simp [listedN]; omega) hdst
        rwa [listedN_succ] at hp
      exact hag.unique hag2
    rw [hfull]
    exact hrest _ _ hKc
theorem any_inv_rest {n : Nat} (n1 : Nat) {Inv : World → Prop} {vs : Nat → Value} {a0 full : Act} {l : List Oper} (hB : openB l.toArray n = true) (hf : Agree l.toArray n vs a0 (listedN l.toArray.size n) full)
    (step : ∀ i o, n1 ≤ i → i < n → l[i]? = some o → StepOk P l.toArray full Inv o (vs i)) (tail : ∀ w', Inv w' → RestAt P Q l n full w') :
    ∀ (c : Nat) (listed : Array Bool) (a : Act) (w : World), leftN n listed = c → (∀ j, j < n1 → listed.getD j false = true) → HeadInv .any l.toArray n listed → Agree l.toArray n vs a0 listed a → Inv w →
      wpAny P .any l.toArray Q (c + (l.toArray.size - n)) listed a w := by
  simp only [openB, Bool.and_eq_true, Bool.or_eq_true, decide_eq_true_eq] at hB
  obtain ⟨⟨⟨hsel, hn⟩, hsink⟩, hhead⟩ := hB
  have hall : ∀ j, j < n → (listedN l.toArray.size n).getD j false = true := by
    intro j hj
    have : j < l.length := by have := hn; simp at this; omega
    simp [listedN, this, hj]
  intro c
  induction c with
  | zero =>
    intro listed a w hc hd1 inv hag hw
    have h1 := leftN_zero hc
    have he := listed_eq inv.size h1 inv.tail
    subst he
    have hau := hag.unique hf
    subst hau
    rw [Nat.zero_add]
    exact tail w hw
  | succ c ih =>
    intro listed a w hc hd1 inv hag hw
    obtain ⟨i0, g1, g2, g3⟩ := leftN_pos (n := n) (listed := listed) (by omega)
    have hin : i0 < listed.size := by rw [inv.size]; omega
    obtain ⟨o0, ho0, hon, _, _⟩ := headB_spec hhead g1
    have hready : i0 ∈ Region.ready .any l.toArray listed := mem_ready.2 ⟨getD_in hin g2, o0, ho0, fun e he hb => g3 _ (hon e he hb)⟩
    rw [show c + 1 + (l.toArray.size - n) = (c + (l.toArray.size - n)) + 1 by omega]
    refine ⟨fun h => (by rw [h] at hready; cases hready), fun i hi => ?_⟩
    have hilt : i < n := by
      rcases Nat.lt_or_ge i n with h | h
      · exact h
      · exfalso
        obtain ⟨hil, oi, hoi, _⟩ := mem_ready.1 hi
        have hisz : i < l.toArray.size := (Array.getElem?_eq_some_iff.1 hoi).1
        rcases hsink with hsz | ⟨hs, hch⟩
        · omega
        · exact tail_waits hs hch (by omega) inv _ i0 rfl g1 (getD_in hin g2) i h hi
    obtain ⟨hil, oi, hoi, hall'⟩ := mem_ready.1 hi
    have hge : n1 ≤ i := by
      rcases Nat.lt_or_ge i n1 with h | h
      · have := hd1 i h; rw [getD_both hil] at this; cases this
      · exact h
    obtain ⟨o, ho, _, hlk, hdst⟩ := headB_spec hhead hilt
    have hoo : oi = o := by rw [ho] at hoi; simpa using hoi.symm
    subst hoo
    have hil2 : i < listed.size := by rw [inv.size]; exact (Array.getElem?_eq_some_iff.1 ho).1
    refine wpOp_step ho (Region.noSelect_spec hsel i oi · · ho) (fun t ht => frame_looks hag hf hall fun j hj hd => ?_) (step i oi hge hilt (by simpa using ho)) hw (fun w' hw' => ?_)
    · have hwf := hlk t ht j hj hd
      obtain ⟨oj, hoj, e, he, hb, hon'⟩ := Region.waitsFor_spec hwf
      have : oj = oi := by rw [ho] at hoj; simpa using hoj.symm
      subst this
      have := hall' e he hb
      rw [hon'] at this
      exact this
    · refine ih _ _ w' ?_ (fun j hj => (getD_set_ne false (show i ≠ j by omega)).trans (hd1 j hj)) (inv.set hi hilt) (hag.put ho hil2 hdst) hw'
      have := leftN_set (n := n) hilt hil2 (getD_both hil)
      omega



/-- Operations whose order is open, walked once in the text's order in a class of worlds. -/
theorem rest_quiet {n m : Nat} {a : Act} {w : World} (C : World → Prop) (hnm : n ≤ m) (hB : openB l.toArray m = true) (h0 : C w)
    (h : wpQuiet P l.toArray C (fun full => ∀ w', C w' → RestAt P Q l m full w') ((l.take m).drop n) a) : RestAt P Q l n a w := by
  have hB' := hB
  simp only [openB, Bool.and_eq_true, Bool.or_eq_true, decide_eq_true_eq] at hB'
  obtain ⟨⟨⟨hsel, hm⟩, hsink⟩, hhead⟩ := hB'
  have hm' : m ≤ l.length := by simpa using hm
  have hag0 : Agree l.toArray m (ownOf a l) a (listedN l.toArray.size n) a := by
    refine ⟨rfl, rfl, fun t ht => ?_⟩
    have e : a.tmps[t]? = some (a.tmps.getD t undef) := by simp [ht]
    cases hh : headOf l.toArray m t with
    | none => exact e
    | some j =>
      have hd := (headOf_some hh).2
      have hd' : (l[j]?).bind (·.dst) = some t := by simpa using hd
      show a.tmps[t]? = some (if _ then ownOf a l j else _)
      unfold ownOf
      rw [hd']
      simp only [ite_self]
      exact e
  have hleft : leftN m (listedN l.toArray.size n) = m - n := by
    unfold leftN
    obtain ⟨k, rfl⟩ := Nat.exists_eq_add_of_le hnm
    rw [List.range_add, List.filter_append, List.length_append]
    rw [List.filter_eq_nil_iff.2 (fun j hj => by
      have hj' := List.mem_range.1 hj
      have : j < l.length := by omega
      simp [listedN, this, hj'])]
    rw [List.filter_eq_self.2 (fun j hj => by
      obtain ⟨x, hx, rfl⟩ := List.mem_map.1 hj
      have hx' := List.mem_range.1 hx
      have : n + x < l.length := by omega
      simp [listedN, this])]
    simp
  obtain ⟨vs, full, g1, g2, g3, g4⟩ := quiet_steps hsel hhead hm' (m - n) n _ a (by omega) hag0 h
  have hag1 : Agree l.toArray m vs a (listedN l.toArray.size n) a := hag0.congr fun j hj => (g1 j (by
    by_cases hjs : j < l.length
    · simp [listedN, hjs] at hj; exact hj
    · simp [listedN, hjs] at hj)).symm
  have := any_inv_rest (P := P) (Q := Q) n hB g2 (fun i o h1 h2 ho => g4 i h1 h2 o ho) g3 (m - n) _ a w hleft (fun j hj => by
    have : j < l.length := by omega
    simp [listedN, this, hj]) (headInv_from hhead hnm) hag1 h0
  unfold RestAt
  rwa [show m - n + (l.toArray.size - m) = l.toArray.size - n by omega] at this
end
end Go.Cib
/-
  What stands in a page: package wal's Read.
-/
namespace Go.Proofs.YtkjgbhpnlgcinaaGreatDoor
open Go.RowKit Go.Cib
theorem wc_lookup2 {P : Program} {ops : Array Oper} {rest : List Oper} {a : Act} {w : World} {Q : Exit → Act → World → Prop} {dst : Option Tmp} {ty : TypeId} {pos : String} {af : Array Edge} {κ : Type} [DecidableEq κ] {T K E : TypeId} {key : κ → Value} {M : Nat} {f : κ → Option Value} {m k : Operand} (hK : KeyT P K key) (hT : P.underlying T = some (.map K E)) {z : Value} (hz : (zeroValue E).run P w = .ok z w) (hC : MapAt key w M f)
    {kk : κ} (hm : a.eval m = .map (some M)) (hk : a.eval k = key kk) (h : wpList P ops Q rest (a.put dst (.tuple #[(f kk).getD z, .bool (f kk).isSome])) w) : wpList P ops Q (⟨dst, .lookup T m k true, ty, pos, af, none⟩ :: rest) a w :=
  wc_value rfl (exec_lookup rfl hK hT hz hm hk hC) h
def RVal (g d : Nat) (log p : Nat) (s : Sec) (er : Int) : Nat → Value
  | 0 => .pointer (some ⟨g, 0, none⟩)
  | 1 => .pointer (some ⟨g, 0, none⟩)
  | 2 => .pointer (some ⟨g, 0, none⟩)
  | 3 => .pointer (some ⟨d, 0, none⟩)
  | 4 => .pointer (some ⟨g, 0, none⟩)
  | 5 => .pointer (some ⟨g, 0, none⟩)
  | 6 => .pointer (some ⟨g, 1, none⟩)
  | 7 => .int .i64 log
  | 8 => .int .i64 (2 + log)
  | 9 => .int .i64 p
  | 10 => .int .i64 (2 + log + p)
  | 11 => .tuple #[.agg (secA s), .int .i64 er]
  | 12 => .tuple #[.agg (secA s), .int .i64 er]
  | 13 => .agg (secA s)
  | _ => .int .i64 er
theorem exec_alloc_sec {a : Act} {w : World} {dst : Option Tmp} {ty : TypeId} {pos : String} {af : Array Edge} {gd : Option (Nat × Bool)} : (execOp a.eval ⟨dst, .alloc 124, ty, pos, af, gd⟩).run Tryz.prog w = .ok (.value (.pointer (some ⟨w.heap.size, 0, none⟩))) (w.alloc (.cells (secA (Arr.zero : Sec)) 124)) := by
  obtain ⟨i, h1, _, _, h2⟩ := secT.info
  have h2' : i.zero = some (.agg (secA (Arr.zero : Sec))) := h2
  generalize secA (Arr.zero : Sec) = z at *
  exact exec_alloc h1 h2' rfl
theorem exec_store_sec {a : Act} {w : World} {dst : Option Tmp} {ty : TypeId} {pos : String} {af : Array Edge} {gd : Option (Nat × Bool)} {x y : Operand} {B : Nat} {s0 s : Sec} {e : TypeId} (hb : w.heap[B]? = some (.cells (secA s0) e)) (hx : a.eval x = .pointer (some ⟨B, 0, none⟩)) (hy : a.eval y = .agg (secA s)) :
    (execOp a.eval ⟨dst, .store 124 x y, ty, pos, af, gd⟩).run Tryz.prog w = .ok .skip (w.setRow B (secA s)) := by
  rw [exec_store_agg secT.agg rfl hx hy (by simp) (secA_one s) hb (by simp), spl_all]

set_option maxRecDepth 20000 in
set_option maxHeartbeats 4000000 in
theorem logRead_any {w : World} {g d L M V : Nat} {S : LogS} (h : LogAt w g d L M V S) (ok : S.Ok) (p : Int) :
    Calls Tryz.prog 58 #[.pointer (some ⟨g, 0, none⟩), .int .i64 p] w fun e w' => e = .returned (.tuple #[.agg (secA (S.read p).1.1), .int .i64 (S.read p).1.2]) ∧ LogAt w' g d L M V (S.read p).2 ∧ Tch [g] w w' := by
  obtain ⟨W, hW⟩ : ∃ W, w.alloc (.cells (secA (Arr.zero : Page)) 54) = W := ⟨_, rfl⟩
  have tW : Tch [] w W := by rw [← hW]; exact (Tch.refl _ _).alloc _
  have bW : W.heap[w.heap.size]? = some (.cells (secA (Arr.zero : Page)) 54) := by rw [← hW]; exact heap_alloc_new _ _
  have h1 := h.touch tW (by simp) (by simp) (by simp) (by simp) (by simp)
  have c7 := h1.cell 7 rfl
  have c2 := h1.cell 2 rfl
  have c6 := h1.cell 6 rfl
  have hgw := lt_of_heap h.hg
  have hdw := lt_of_heap h.hD.hd
  have hLw := lt_of_heap h.hD.hL
  have hMw := h.hD.hM.lt
  have hVw := h.hV.lt
  have HW := Lib.hid hW
  have TW := Lib.hid tW
  have BW := Lib.hid bW
  have H1 := Lib.hid h1
  have OKK := Lib.hid ok
  clear hW tW bW h1 h ok
  have FIN : Hid (∀ (wX : World) (S' : LogS), LogAt wX g d L M V S' → Tch [g] w wX → ∀ q : Page, LogAt (wX.setRow w.heap.size (secA q)) g d L M V S' ∧ Tch [g] w (wX.setRow w.heap.size (secA q))) := fun wX S' hX tX q => by
    have t : Tch [w.heap.size] wX (wX.setRow w.heap.size (secA q)) := (Tch.refl _ _).setRow (.inl (by simp)) _
    exact ⟨hX.touch t (by simp; omega) (by simp; omega) (by simp; omega) (by simp; omega) (by simp; omega), tX.setRow (.inr (Nat.le_refl _)) _⟩
  cases hd : S.dead with
  | true =>
    rw [hd] at c7
    have e : S.read p = ((Arr.zero, 6), S) := by unfold LogS.read; rw [if_pos hd]
    have E := Lib.hid e
    clear e hd
    go_enter Tryz.func58, Tryz.ntmps58
    go_upto_region 1 with ((with_reducible refine wc_alloc_arr pageT ?_); go_frame)
    rw [HW.out]
    go_wp2_with (first | ((with_reducible apply wc_build_arr pageT); exact rfl; go_frame) | ((with_reducible apply wc_store_var pageT BW.out); exact rfl; exact rfl; go_frame))
    refine bodyPost_ret (res_cell_tmp pageT.agg rfl _ rfl (setRow_heap _ _ _ _ _ _ BW.out) (size_secA _)) rfl ?_
    rw [E.out]
    exact ⟨rfl, FIN.out _ _ H1.out (TW.out.mono (by simp)) _⟩
  | false =>
    rw [hd] at c7
    by_cases hr : p < 0 ∨ (S.pages : Int) ≤ p
    · have e : S.read p = ((Arr.zero, 2), S) := by unfold LogS.read; rw [if_neg (by simp [hd]), if_pos hr]
      have E := Lib.hid e
      clear e hd
      by_cases hp0 : p < 0
      · clear hr
        go_enter Tryz.func58, Tryz.ntmps58
        go_upto_region 1 with ((with_reducible refine wc_alloc_arr pageT ?_); go_frame)
        rw [HW.out]
        go_wp2_with (first | ((with_reducible apply wc_build_arr pageT); exact rfl; go_frame) | ((with_reducible apply wc_store_var pageT BW.out); exact rfl; exact rfl; go_frame))
        refine bodyPost_ret (res_cell_tmp pageT.agg rfl _ rfl (setRow_heap _ _ _ _ _ _ BW.out) (size_secA _)) rfl ?_
        rw [E.out]
        exact ⟨rfl, FIN.out _ _ H1.out (TW.out.mono (by simp)) _⟩
      · have hpp : (S.pages : Int) ≤ p := hr.resolve_left hp0
        clear hr
        go_enter Tryz.func58, Tryz.ntmps58
        go_upto_region 1 with ((with_reducible refine wc_alloc_arr pageT ?_); go_frame)
        rw [HW.out]
        go_wp2_with (first | ((with_reducible apply wc_build_arr pageT); exact rfl; go_frame) | ((with_reducible apply wc_store_var pageT BW.out); exact rfl; exact rfl; go_frame))
        refine bodyPost_ret (res_cell_tmp pageT.agg rfl _ rfl (setRow_heap _ _ _ _ _ _ BW.out) (size_secA _)) rfl ?_
        rw [E.out]
        exact ⟨rfl, FIN.out _ _ H1.out (TW.out.mono (by simp)) _⟩
    obtain ⟨n, rfl⟩ := Int.eq_ofNat_of_zero_le (show 0 ≤ p by omega)
    have hnp : n < S.pages := by omega
    have hr1 : ¬ ((n : Int) < 0) := by omega
    have hr2 : ¬ ((S.pages : Int) ≤ n) := by omega
    cases hov : S.over (n : Int) with
    | some x =>
      have e : S.read n = ((x, 0), S) := by unfold LogS.read; rw [if_neg (by simp [hd]), if_neg hr, hov]
      have E := Lib.hid e
      have hsx : ∀ z, (((S.over (n : Int)).map fun x => Value.agg (secA x)).getD z) = .agg (secA x) := fun z => by rw [hov]; rfl
      have hss : ((S.over (n : Int)).map fun x => Value.agg (secA x)).isSome = true := by rw [hov]; rfl
      have HSX := Lib.hid hsx
      have HSS := Lib.hid hss
      have BA : Hid (∀ o, (W.alloc o).heap[w.heap.size]? = some (.cells (secA (Arr.zero : Page)) 54)) := fun o => ((Tch.refl [] W).alloc o).heap BW.out (by simp)
      have LA : Hid (∀ o, LogAt (W.alloc o) g d L M V S) := fun o => H1.out.touch ((Tch.refl [] W).alloc o) (by simp) (by simp) (by simp) (by simp) (by simp)
      clear e hd hov hsx hss hr
      go_enter Tryz.func58, Tryz.ntmps58
      go_upto_region 1 with ((with_reducible refine wc_alloc_arr pageT ?_); go_frame)
      rw [HW.out]
      go_wp2_with (first | ((with_reducible refine wc_lookup2 keyI uMapPage (z := .agg (secA (Arr.zero : Page))) (pageT.zero _) H1.out.hV (kk := (n : Int)) ?_ ?_ ?_); exact rfl; exact rfl; simp only [HSX.out, HSS.out]; go_frame) | ((with_reducible refine wc_alloc_arr pageT ?_); go_frame) | ((with_reducible apply wc_store_new pageT); exact rfl; exact rfl; go_frame) | ((with_reducible apply wc_load_new pageT); exact rfl; go_frame) | ((with_reducible apply wc_store_var pageT (BA.out _)); exact rfl; exact rfl; go_frame))
      refine bodyPost_ret (res_cell_tmp pageT.agg rfl _ rfl (setRow_heap _ _ _ _ _ _ (BA.out _)) (size_secA _)) rfl ?_
      rw [E.out]
      exact ⟨rfl, FIN.out _ _ (LA.out _) ((TW.out.alloc _).mono (by simp)) _⟩
    | none =>
      obtain ⟨s, hs⟩ : ∃ s, (S.disk.read (2 + S.log + n)).1 = s := ⟨_, rfl⟩
      obtain ⟨er, her⟩ : ∃ er, (S.disk.read (2 + S.log + n)).2 = er := ⟨_, rfl⟩
      have e : S.read n = if er ≠ 0 then ((Arr.zero, er), { S with dead := S.dead || er == 6 }) else (LogS.pageOf n s, S) := by
        unfold LogS.read; rw [if_neg (by simp [hd]), if_neg hr, hov]
        simp only [Int.toNat_natCast]
        rw [hs, her]
      have E := Lib.hid e
      have hsx : ∀ z, (((S.over (n : Int)).map fun x => Value.agg (secA x)).getD z) = z := fun z => by rw [hov]; rfl
      have hss : ((S.over (n : Int)).map fun x => Value.agg (secA x)).isSome = false := by rw [hov]; rfl
      have HSX := Lib.hid hsx
      have HSS := Lib.hid hss
      have hlog := OKK.out.log4
      have hpgs := OKK.out.pages2
      obtain ⟨W2, hW2⟩ : ∃ W2, W.alloc (.cells (secA (Arr.zero : Page)) 54) = W2 := ⟨_, rfl⟩
      have t2 : Tch [] W W2 := by rw [← hW2]; exact (Tch.refl _ _).alloc _
      have L2 := Lib.hid (H1.out.touch t2 (by simp) (by simp) (by simp) (by simp) (by simp))
      have B2 := Lib.hid (t2.heap BW.out (by simp))
      have T2 := Lib.hid (TW.out.trans t2)
      have HW2 := Lib.hid hW2
      have RD : Hid (∀ w', Tch [] W2 w' → Calls Tryz.prog 75 #[.pointer (some ⟨d, 0, none⟩), .int .i64 (2 + S.log + n)] w' fun e w'' => e = .returned (.tuple #[.agg (secA s), .int .i64 er]) ∧ Tch [] w' w'') := fun w' t' => by
        rw [← hs, ← her]; exact read_any (L2.out.hD.touch t' (by simp) (by simp) (by simp)) _
      clear e hov hsx hss hr hs her hW2 t2
      go_enter Tryz.func58, Tryz.ntmps58
      go_upto_region 1 with ((with_reducible refine wc_alloc_arr pageT ?_); go_frame)
      rw [HW.out]
      go_upto_region 10 with (first | ((with_reducible refine wc_lookup2 keyI uMapPage (z := .agg (secA (Arr.zero : Page))) (pageT.zero _) H1.out.hV (kk := (n : Int)) ?_ ?_ ?_); exact rfl; exact rfl; simp only [HSX.out, HSS.out]; go_frame) | ((with_reducible refine wc_alloc_arr pageT ?_); go_frame) | ((with_reducible apply wc_store_new pageT); exact rfl; exact rfl; go_frame))
      rw [HW2.out]
      have c0 := L2.out.cell 0 rfl
      have c1 := L2.out.cell 1 rfl
      have Y8 : IntKind.i64.wrap ((2 : Int) + S.log) = 2 + S.log := by simp [IntKind.wrap, IntKind.bits, IntKind.signed]; omega
      have Y10 : IntKind.i64.wrap ((2 : Int) + S.log + n) = 2 + S.log + n := by simp [IntKind.wrap, IntKind.bits, IntKind.signed]; omega
      refine wp_region_state 17 (MadeOne W2 (RVal g d S.log n s er) 15 16 (.cells (secA (Arr.zero : Sec)) 124) (.cells (secA s) 124)) (by kernel_rfl) (by kernel_rfl) (fun vs => ⟨(Tch.refl _ _).drew, fun j _ _ hl => (by rw [getD_replicate_false] at hl; cases hl), fun hl => (by rw [getD_replicate_false] at hl; cases hl), fun hl => (by rw [getD_replicate_false] at hl; cases hl)⟩) ?_ ?_
      · intro i o hi ho listed vs fu w' hI hsz hnl hold hdep
        have c0' := cell_old hI.tch c0
        have c1' := cell_old hI.tch c1
        have hi7 : i = 0 ∨ i = 1 ∨ i = 2 ∨ i = 3 ∨ i = 4 ∨ i = 5 ∨ i = 6 ∨ i = 7 ∨ i = 8 ∨ i = 9 ∨ i = 10 ∨ i = 11 ∨ i = 12 ∨ i = 13 ∨ i = 14 ∨ i = 15 ∨ i = 16 := by omega
        rcases hi7 with rfl | rfl | rfl | rfl | rfl | rfl | rfl | rfl | rfl | rfl | rfl | rfl | rfl | rfl | rfl | rfl | rfl
        all_goals (simp only [List.getElem?_cons_zero, List.getElem?_cons_succ, Option.some.injEq] at ho; subst ho)
        · refine step_plain rfl ?_
          have x0 : fu.tmps[0]?.getD undef = .pointer (some ⟨g, 0, none⟩) := ev_tmp (hold 0 (by show _ < 93; omega) (by kernel_rfl))
          go_simp
          exact hI.plain (Tch.refl _ _) (by decide) (by decide)
        · refine step_plain rfl ?_
          obtain ⟨l46, e46⟩ := hdep 0 46 (by show _ < 93; omega) (by kernel_rfl) (by kernel_rfl)
          have x46 : fu.tmps[46]?.getD undef = .pointer (some ⟨g, 0, none⟩) := ev_tmp (e46.trans (hI.vals 0 (by decide) (by decide) l46))
          go_simp
          exact hI.plain (Tch.refl _ _) (by decide) (by decide)
        · refine step_plain rfl ?_
          obtain ⟨l47, e47⟩ := hdep 1 47 (by show _ < 93; omega) (by kernel_rfl) (by kernel_rfl)
          have x47 : fu.tmps[47]?.getD undef = .pointer (some ⟨g, 0, none⟩) := ev_tmp (e47.trans (hI.vals 1 (by decide) (by decide) l47))
          go_simp
          exact hI.plain (Tch.refl _ _) (by decide) (by decide)
        · refine step_plain rfl ?_
          obtain ⟨l48, e48⟩ := hdep 2 48 (by show _ < 93; omega) (by kernel_rfl) (by kernel_rfl)
          have x48 : fu.tmps[48]?.getD undef = .pointer (some ⟨g, 0, none⟩) := ev_tmp (e48.trans (hI.vals 2 (by decide) (by decide) l48))
          go_simp
          exact hI.plain (Tch.refl _ _) (by decide) (by decide)
        · refine step_plain rfl ?_
          have x0 : fu.tmps[0]?.getD undef = .pointer (some ⟨g, 0, none⟩) := ev_tmp (hold 0 (by show _ < 93; omega) (by kernel_rfl))
          go_simp
          exact hI.plain (Tch.refl _ _) (by decide) (by decide)
        · refine step_plain rfl ?_
          obtain ⟨l50, e50⟩ := hdep 4 50 (by show _ < 93; omega) (by kernel_rfl) (by kernel_rfl)
          have x50 : fu.tmps[50]?.getD undef = .pointer (some ⟨g, 0, none⟩) := ev_tmp (e50.trans (hI.vals 4 (by decide) (by decide) l50))
          go_simp
          exact hI.plain (Tch.refl _ _) (by decide) (by decide)
        · refine step_plain rfl ?_
          obtain ⟨l51, e51⟩ := hdep 5 51 (by show _ < 93; omega) (by kernel_rfl) (by kernel_rfl)
          have x51 : fu.tmps[51]?.getD undef = .pointer (some ⟨g, 0, none⟩) := ev_tmp (e51.trans (hI.vals 5 (by decide) (by decide) l51))
          go_simp
          exact hI.plain (Tch.refl _ _) (by decide) (by decide)
        · refine step_plain rfl ?_
          obtain ⟨l52, e52⟩ := hdep 6 52 (by show _ < 93; omega) (by kernel_rfl) (by kernel_rfl)
          have x52 : fu.tmps[52]?.getD undef = .pointer (some ⟨g, 1, none⟩) := ev_tmp (e52.trans (hI.vals 6 (by decide) (by decide) l52))
          go_simp
          exact hI.plain (Tch.refl _ _) (by decide) (by decide)
        · refine step_plain rfl ?_
          obtain ⟨l53, e53⟩ := hdep 7 53 (by show _ < 93; omega) (by kernel_rfl) (by kernel_rfl)
          have x53 : fu.tmps[53]?.getD undef = .int .i64 S.log := ev_tmp (e53.trans (hI.vals 7 (by decide) (by decide) l53))
          go_simp
          exact hI.plain (Tch.refl _ _) (by decide) (by decide)
        · refine step_plain rfl ?_
          have x1 : fu.tmps[1]?.getD undef = .int .i64 n := ev_tmp (hold 1 (by show _ < 93; omega) (by kernel_rfl))
          go_simp
          exact hI.plain (Tch.refl _ _) (by decide) (by decide)
        · refine step_plain rfl ?_
          obtain ⟨l54, e54⟩ := hdep 8 54 (by show _ < 93; omega) (by kernel_rfl) (by kernel_rfl)
          have x54 : fu.tmps[54]?.getD undef = .int .i64 (2 + S.log) := ev_tmp (e54.trans (hI.vals 8 (by decide) (by decide) l54))
          obtain ⟨l55, e55⟩ := hdep 9 55 (by show _ < 93; omega) (by kernel_rfl) (by kernel_rfl)
          have x55 : fu.tmps[55]?.getD undef = .int .i64 n := ev_tmp (e55.trans (hI.vals 9 (by decide) (by decide) l55))
          go_simp
          exact hI.plain (Tch.refl _ _) (by decide) (by decide)
        · refine step_plain rfl ?_
          obtain ⟨l49, e49⟩ := hdep 3 49 (by show _ < 93; omega) (by kernel_rfl) (by kernel_rfl)
          have x49 : fu.tmps[49]?.getD undef = .pointer (some ⟨d, 0, none⟩) := ev_tmp (e49.trans (hI.vals 3 (by decide) (by decide) l49))
          obtain ⟨l56, e56⟩ := hdep 10 56 (by show _ < 93; omega) (by kernel_rfl) (by kernel_rfl)
          have x56 : fu.tmps[56]?.getD undef = .int .i64 (2 + S.log + n) := ev_tmp (e56.trans (hI.vals 10 (by decide) (by decide) l56))
          go_simp
          refine (RD.out _ hI.tch).mono ?_
          rintro e w5 ⟨rfl, q2⟩
          exact ⟨_, rfl, hI.plain q2 (by decide) (by decide)⟩
        · refine step_plain rfl ?_
          obtain ⟨l57, e57⟩ := hdep 11 57 (by show _ < 93; omega) (by kernel_rfl) (by kernel_rfl)
          have x57 : fu.tmps[57]?.getD undef = .tuple #[.agg (secA s), .int .i64 er] := ev_tmp (e57.trans (hI.vals 11 (by decide) (by decide) l57))
          go_simp
          exact hI.plain (Tch.refl _ _) (by decide) (by decide)
        · refine step_plain rfl ?_
          obtain ⟨l45, e45⟩ := hdep 12 45 (by show _ < 93; omega) (by kernel_rfl) (by kernel_rfl)
          have x45 : fu.tmps[45]?.getD undef = .tuple #[.agg (secA s), .int .i64 er] := ev_tmp (e45.trans (hI.vals 12 (by decide) (by decide) l45))
          go_simp
          exact hI.plain (Tch.refl _ _) (by decide) (by decide)
        · refine step_plain rfl ?_
          obtain ⟨l45, e45⟩ := hdep 12 45 (by show _ < 93; omega) (by kernel_rfl) (by kernel_rfl)
          have x45 : fu.tmps[45]?.getD undef = .tuple #[.agg (secA s), .int .i64 er] := ev_tmp (e45.trans (hI.vals 12 (by decide) (by decide) l45))
          go_simp
          exact hI.plain (Tch.refl _ _) (by decide) (by decide)
        · refine step_plain rfl ?_
          exact stpR_ok (exec_alloc_sec) (hI.alloc (by decide) hnl hsz)
        · refine step_plain rfl ?_
          obtain ⟨l8, e8⟩ := hdep 15 8 (by show _ < 93; omega) (by kernel_rfl) (by kernel_rfl)
          obtain ⟨l58, e58⟩ := hdep 13 58 (by show _ < 93; omega) (by kernel_rfl) (by kernel_rfl)
          have x58 : fu.eval (.tmp 58) = .agg (secA s) := e58.trans (hI.vals 13 (by decide) (by decide) l58)
          obtain ⟨B, hB1, hB2, hB3⟩ := hI.made l8
          rw [if_neg (by rw [hnl]; simp)] at hB3
          have hb3 : w'.heap[B]? = some (.cells (secA (Arr.zero : Sec)) 124) := hB3
          refine stpR_skip (exec_store_sec hb3 (e8.trans hB1) x58) ?_
          exact hI.store (by decide) hsz l8 hB1 hB2 ((Tch.refl _ _).setRow (.inl (by simp)) _) (setRow_heap _ _ _ _ _ _ hb3) _
      · intro vs w3 hI
        obtain ⟨B, hB1, hB2, hB3⟩ := hI.made (by kernel_rfl)
        have hB3' : w3.heap[B]? = some (.cells (secA s) 124) := by rw [if_pos (by kernel_rfl)] at hB3; exact hB3
        have x14 : vs 14 = .int .i64 er := hI.vals 14 (by decide) (by decide) (by kernel_rfl)
        have X14 := Lib.hid x14
        have X15 := Lib.hid hB1
        have S3 := Lib.hid hB3'
        have hW2s : W.heap.size ≤ W2.heap.size := by have h1 := T2.out.size; have h2 := HW2.out; have : W2.heap.size = W.heap.size + 1 := by rw [← h2]; simp
                                                     omega
        have T3 := Lib.hid (T2.out.trans hI.tch)
        have L3 := Lib.hid (L2.out.touch hI.tch (by simp) (by simp) (by simp) (by simp) (by simp))
        have B3 := Lib.hid (hI.tch.heap B2.out (by simp))
        clear hI hB1 hB3 hB3' x14 c0 c1
        unfold fullOf
        rw [show (List.range 17).map vs = [vs 0, vs 1, vs 2, vs 3, vs 4, vs 5, vs 6, vs 7, vs 8, vs 9, vs 10, vs 11, vs 12, vs 13, vs 14, vs 15, vs 16] from rfl, X14.out, X15.out]
        generalize vs 0 = v0
        generalize vs 1 = v1
        generalize vs 2 = v2
        generalize vs 3 = v3
        generalize vs 4 = v4
        generalize vs 5 = v5
        generalize vs 6 = v6
        generalize vs 7 = v7
        generalize vs 8 = v8
        generalize vs 9 = v9
        generalize vs 10 = v10
        generalize vs 11 = v11
        generalize vs 12 = v12
        generalize vs 13 = v13
        generalize vs 16 = v16
        clear X14 X15 vs
        simp only [List.take_succ_cons, List.take_zero, List.drop_succ_cons, List.drop_zero, putAll]
        go_frame
        by_cases hz : er = 0
        · subst hz
          rw [if_neg (by simp)] at E
          obtain ⟨f, hf⟩ : ∃ f, parse s = f := ⟨_, rfl⟩
          have hfi : f.idx < 4294967296 := by rw [← hf]; exact (parse_ok s).idx
          have NO : Hid (¬ (f.sector = s ∧ f.kind = 5 ∧ f.num = 0 ∧ f.idx = n) → LogS.pageOf n s = (Arr.zero, 81)) := fun hn => by unfold LogS.pageOf; rw [hf, if_neg hn]
          have YES : Hid ((f.sector = s ∧ f.kind = 5 ∧ f.num = 0 ∧ f.idx = n) → LogS.pageOf n s = (f.page, 0)) := fun hn => by unfold LogS.pageOf; rw [hf, if_pos hn]
          have HF := Lib.hid hf
          obtain ⟨ob, hob⟩ : ∃ ob, decide (f.sector = s) = ob := ⟨_, rfl⟩
          have HOB := Lib.hid hob
          have W3k := convU32 n (by omega)
          clear hf hob
          go_upto_region 14 with (first | ((with_reducible apply wc_load_var secT S3.out); exact rfl; go_frame) | (go_at_call 109; refine (wread_any s _).mono ?_; rintro e w4 ⟨rfl, q1⟩; rw [HF.out, HOB.out]; have T4 := Lib.hid q1; clear q1) | ((with_reducible refine wc_alloc_frame frameTT ?_); go_frame) | ((with_reducible apply wc_store_frame frameTT (heap_alloc_new w4 (.cells (frameA FrameV.zero) 155)) (g := f)); exact rfl; exact rfl; go_frame; rw [setRow_alloc_new]))
          obtain ⟨F, hF⟩ : ∃ F, w4.heap.size = F := ⟨_, rfl⟩
          obtain ⟨w6, hw6⟩ : ∃ w6, w4.alloc (.cells (frameA f) 155) = w6 := ⟨_, rfl⟩
          have b6 : w6.heap[F]? = some (.cells (frameA f) 155) := by rw [← hw6, ← hF]; exact heap_alloc_new _ _
          have t36 : Tch [] w3 w6 := by rw [← hw6]; exact T4.out.alloc _
          have T6 := Lib.hid (T3.out.trans t36)
          have L6 := Lib.hid (L3.out.touch t36 (by simp) (by simp) (by simp) (by simp) (by simp))
          have BR := Lib.hid (t36.heap B3.out (by simp))
          have BF := Lib.hid b6
          have k0 := (frame_cell b6).1
          have k2 := (frame_cell b6).2.2.1
          have k3 := (frame_cell b6).2.2.2
          rw [hF, hw6]
          clear hF hw6 b6 t36
          by_cases p1 : ob = true
          rotate_left
          · have E2 : Hid (LogS.pageOf n s = (Arr.zero, 81)) := NO.out (fun hh => p1 (by rw [← HOB.out, decide_eq_true hh.1]))
            rw [E2.out] at E
            have pb : ob = false := by simpa using p1
            subst pb
            clear p1
            go_wp2_with (first | ((with_reducible apply wc_build_arr pageT); exact rfl; go_frame) | ((with_reducible apply wc_store_var pageT BR.out); exact rfl; exact rfl; go_frame))
            refine bodyPost_ret (res_cell_tmp pageT.agg rfl _ rfl (setRow_heap _ _ _ _ _ _ BR.out) (size_secA _)) rfl ?_
            rw [E.out]
            exact ⟨rfl, FIN.out _ _ L6.out (T6.out.mono (by simp)) _⟩
          subst p1
          by_cases p2 : f.kind = 5
          rotate_left
          · have E2 : Hid (LogS.pageOf n s = (Arr.zero, 81)) := NO.out (fun hh => p2 hh.2.1)
            rw [E2.out] at E
            have pb : ((f.kind.toNat : Int) != 5) = true := by
              simp only [bne_iff_ne, ne_eq]
              intro e
              exact p2 (UInt8.toNat_inj.1 (by show f.kind.toNat = 5; omega))
            clear p2
            go_wp2_with (first | ((with_reducible apply wc_build_arr pageT); exact rfl; go_frame) | ((with_reducible apply wc_store_var pageT BR.out); exact rfl; exact rfl; go_frame))
            refine bodyPost_ret (res_cell_tmp pageT.agg rfl _ rfl (setRow_heap _ _ _ _ _ _ BR.out) (size_secA _)) rfl ?_
            rw [E.out]
            exact ⟨rfl, FIN.out _ _ L6.out (T6.out.mono (by simp)) _⟩
          have p2' : ((f.kind.toNat : Int) != 5) = false := by rw [p2]; rfl
          have P2 := Lib.hid p2
          clear p2
          by_cases p3 : f.num = 0
          rotate_left
          · have E2 : Hid (LogS.pageOf n s = (Arr.zero, 81)) := NO.out (fun hh => p3 hh.2.2.1)
            rw [E2.out] at E
            have pb : ((f.num : Int) != 0) = true := by simp; omega
            clear p3
            go_wp2_with (first | ((with_reducible apply wc_build_arr pageT); exact rfl; go_frame) | ((with_reducible apply wc_store_var pageT BR.out); exact rfl; exact rfl; go_frame))
            refine bodyPost_ret (res_cell_tmp pageT.agg rfl _ rfl (setRow_heap _ _ _ _ _ _ BR.out) (size_secA _)) rfl ?_
            rw [E.out]
            exact ⟨rfl, FIN.out _ _ L6.out (T6.out.mono (by simp)) _⟩
          have p3' : ((f.num : Int) != 0) = false := by simp; omega
          have P3 := Lib.hid p3
          clear p3
          by_cases p4 : f.idx = n
          rotate_left
          · have E2 : Hid (LogS.pageOf n s = (Arr.zero, 81)) := NO.out (fun hh => p4 hh.2.2.2)
            rw [E2.out] at E
            have pb : ((f.idx : Int) != n) = true := by simp; omega
            clear p4
            go_wp2_with (first | ((with_reducible apply wc_build_arr pageT); exact rfl; go_frame) | ((with_reducible apply wc_store_var pageT BR.out); exact rfl; exact rfl; go_frame))
            refine bodyPost_ret (res_cell_tmp pageT.agg rfl _ rfl (setRow_heap _ _ _ _ _ _ BR.out) (size_secA _)) rfl ?_
            rw [E.out]
            exact ⟨rfl, FIN.out _ _ L6.out (T6.out.mono (by simp)) _⟩
          have p4' : ((f.idx : Int) != n) = false := by simp; omega
          have E2 : Hid (LogS.pageOf n s = (f.page, 0)) := YES.out ⟨of_decide_eq_true HOB.out, P2.out, P3.out, p4⟩
          rw [E2.out] at E
          clear p4
          go_wp2_with (first | ((with_reducible apply wc_load_framepage pageT.agg BF.out); exact rfl; go_frame) | ((with_reducible apply wc_store_var pageT BR.out); exact rfl; exact rfl; go_frame))
          refine bodyPost_ret (res_cell_tmp pageT.agg rfl _ rfl (setRow_heap _ _ _ _ _ _ BR.out) (size_secA _)) rfl ?_
          rw [E.out]
          exact ⟨rfl, FIN.out _ _ L6.out (T6.out.mono (by simp)) _⟩
        · rw [if_pos hz] at E
          have hz' : (er != 0) = true := by simp [hz]
          go_wp2_with (first | ((with_reducible apply wc_build_arr pageT); exact rfl; go_frame) | (go_at_call 87; refine (told_any L3.out er).mono ?_; rintro e w5 ⟨rfl, q1, q2⟩; have L5 := Lib.hid q1; have T5 := Lib.hid ((T3.out.mono (by simp)).trans q2); have BR := Lib.hid (q2.heap B3.out (by simp; omega)); clear q1 q2) | ((with_reducible apply wc_store_var pageT BR.out); exact rfl; exact rfl; go_frame))
          refine bodyPost_ret (res_cell_tmp pageT.agg rfl _ rfl (setRow_heap _ _ _ _ _ _ BR.out) (size_secA _)) rfl ?_
          rw [E.out]
          exact ⟨rfl, FIN.out _ _ L5.out T5.out _⟩
end Go.Proofs.YtkjgbhpnlgcinaaGreatDoor
/-
  What is asked of a log that is not there; how many sectors are free.
-/
namespace Go.Proofs.YtkjgbhpnlgcinaaGreatDoor
open Go.RowKit Go.Cib
set_option maxRecDepth 20000 in
theorem pages_nil (w : World) : Calls Tryz.prog 57 #[.pointer none] w fun x w' => x = .returned (.int .i64 0) ∧ w = w' := by
  go_enter Tryz.func57, Tryz.ntmps57
  go_wp2
  go_ret
  exact ⟨rfl, rfl⟩
set_option maxRecDepth 20000 in
theorem checkpoint_nil (w : World) : Calls Tryz.prog 78 #[.pointer none] w fun x w' => x = .returned (.int .i64 1) ∧ Tch [] w w' := by
  go_enter Tryz.func78, Tryz.ntmps78
  go_wp2
  go_ret
  exact ⟨rfl, (Tch.refl _ _).alloc _⟩
set_option maxRecDepth 20000 in
theorem commit_nil (w : World) (v : Value) : Calls Tryz.prog 41 #[.pointer none, v] w fun x w' => x = .returned (.int .i64 1) ∧ w = w' := by
  go_enter Tryz.func41, Tryz.ntmps41
  go_wp2
  go_ret
  exact ⟨rfl, rfl⟩
set_option maxRecDepth 20000 in
theorem open_nil (w : World) : Calls Tryz.prog 37 #[.pointer none] w fun x w' => x = .returned (.tuple #[.pointer none, .int .i64 1]) ∧ w = w' := by
  go_enter Tryz.func37, Tryz.ntmps37
  go_wp2
  go_ret2
  exact ⟨rfl, rfl⟩
set_option maxRecDepth 20000 in
theorem format_nil (w : World) (log : Int) : Calls Tryz.prog 35 #[.pointer none, .int .i64 log] w fun x w' => x = .returned (.int .i64 1) ∧ Tch [] w w' := by
  go_enter Tryz.func35, Tryz.ntmps35
  go_wp2
  go_ret
  exact ⟨rfl, ((Tch.refl _ _).alloc _).alloc _⟩
set_option maxRecDepth 20000 in
set_option maxHeartbeats 400000 in
theorem logRead_nil (w : World) (p : Int) : Calls Tryz.prog 58 #[.pointer none, .int .i64 p] w fun x w' => x = .returned (.tuple #[.agg (secA (Arr.zero : Page)), .int .i64 1]) ∧ Tch [] w w' := by
  obtain ⟨W, hW⟩ : ∃ W, w.alloc (.cells (secA (Arr.zero : Page)) 54) = W := ⟨_, rfl⟩
  have tW : Tch [] w W := by rw [← hW]; exact (Tch.refl _ _).alloc _
  have bW : W.heap[w.heap.size]? = some (.cells (secA (Arr.zero : Page)) 54) := by rw [← hW]; exact heap_alloc_new _ _
  have HW := Lib.hid hW
  have TW := Lib.hid tW
  have BW := Lib.hid bW
  clear hW tW bW
  go_enter Tryz.func58, Tryz.ntmps58
  go_upto_region 1 with ((with_reducible refine wc_alloc_arr pageT ?_); go_frame)
  rw [HW.out]
  go_wp2_with (first | ((with_reducible apply wc_build_arr pageT); exact rfl; go_frame) | ((with_reducible apply wc_store_var pageT BW.out); exact rfl; exact rfl; go_frame))
  refine bodyPost_ret (res_cell_tmp pageT.agg rfl _ rfl (setRow_heap _ _ _ _ _ _ BW.out) (size_secA _)) rfl ?_
  exact ⟨rfl, TW.out.setRow (.inr (Nat.le_refl _)) _⟩
end Go.Proofs.YtkjgbhpnlgcinaaGreatDoor
/-
  A page that begins with a text's bytes: package ciboriumref08's Text.
-/
namespace Go.Proofs.YtkjgbhpnlgcinaaGreatDoor
open Go.RowKit Go.Cib
theorem ptext_step (l : List UInt8) (k : Nat) (b : UInt8) (hk : k < 480) (hb : l[k]? = some b) : ((Arr.text (l.take k) : Page).l.set k b) = (Arr.text (l.take (k + 1)) : Page).l := by
  have hl := (List.getElem?_eq_some_iff.1 hb).1
  simp only [Arr.text]
  have e1 : (l.take k).length = k := by rw [List.length_take]; omega
  have e2 : (l.take (k + 1)).length = k + 1 := by rw [List.length_take]; omega
  rw [List.take_of_length_le (by omega : (l.take k).length ≤ 480), List.take_of_length_le (by omega : (l.take (k + 1)).length ≤ 480), e1, e2]
  rw [show List.take (k + 1) l = List.take k l ++ [b] by rw [List.take_add_one, hb]; rfl]
  rw [show 480 - k = (480 - (k + 1)) + 1 by omega, List.replicate_succ, List.set_append_right _ _ (by omega), e1, Nat.sub_self, List.set_cons_zero, List.append_assoc]
  rfl
theorem ptext_full (l : List UInt8) (k : Nat) (hk : 480 ≤ k ∨ l.length ≤ k) : (Arr.text (l.take k) : Page) = Arr.text l := by
  apply Arr.ext'
  simp only [Arr.text]
  rcases hk with hk | hk
  · rw [List.take_take, Nat.min_eq_left hk, List.length_take]
    congr 2
    omega
  · rw [List.take_of_length_le hk]

/-- The text's first k bytes are laid. -/
def PTextRel (w0 : World) (X : Nat) (s : ByteArray) (k : Nat) (wr : World) : Prop :=
  wr.heap[X]? = some (.cells (secA (Arr.text (s.data.toList.take k) : Page)) 54) ∧ Tch [X] w0 wr

set_option maxRecDepth 20000 in
set_option maxHeartbeats 400000 in
theorem ptext_any (s : ByteArray) (w : World) (_hs : s.size ≤ 9223372036854775807) :
    Calls Tryz.prog 54 #[.string s] w fun e w' => e = .returned (.agg (secA (Arr.text s.data.toList : Page))) ∧ Tch [] w w' := by
  obtain ⟨W1, hW1⟩ : ∃ W1, W1 = (w.alloc (.cells (secA (Arr.zero : Page)) 54)).alloc (.cells (secA (Arr.zero : Page)) 54) := ⟨_, rfl⟩
  have HW1 := Lib.hid hW1
  have hrel : PTextRel W1 (w.heap.size + 1) s 0 W1 := ⟨by
    rw [hW1, heap_alloc, if_pos (by simp)]
    rfl, Tch.refl _ _⟩
  have HREL := Lib.hid hrel
  clear hrel hW1
  go_enter Tryz.func54, Tryz.ntmps54
  go_wp2_with ((with_reducible refine wc_alloc_arr pageT ?_); go_frame; (try simp only [World.size_alloc]))
  rw [← HW1.out]
  go_loopg [4] s.size (fun k i wr => ∃ j, OnAt s.size i k j ∧ PTextRel W1 (w.heap.size + 1) s j wr)
  case atStart => exact ⟨0, ⟨Nat.zero_le _, rfl, rfl⟩, HREL.out⟩
  case round =>
    obtain ⟨j, ⟨hj, rfl, rfl⟩, hX, hT⟩ := hrel
    have HX := Lib.hid hX
    have HT := Lib.hid hT
    have hB : wr.heap[w.heap.size]? = some (.cells (secA (Arr.zero : Page)) 54) := by
      refine hT.heap ?_ (by simp)
      rw [HW1.out, heap_alloc, if_neg (by simp), heap_alloc, if_pos rfl]
    have HB := Lib.hid hB
    clear hT hB
    by_cases hj1 : j < s.size
    · by_cases hj2 : j < 480
      · have hc : wr.cell? ⟨w.heap.size + 1, j, none⟩ = some (bv ((Arr.text (s.data.toList.take j) : Page).l.getD j 0)) := by
          rw [cell_of_row wr _ j _ _ _ hX, secA, bytesA_get, List.getD_eq_getElem?_getD, List.getElem?_eq_getElem (by rw [Arr.h]; exact hj2)]
          rfl
        have hf := frozen_of_row wr (w.heap.size + 1) j _ _ hX
        clear hX
        go_wp2
        go_roundg (s.size - (j + 1))
        case measure => omega
        case rel =>
          have hb : s.data.toList[j]? = some s[j] := by
            rw [Array.getElem?_toList]
            exact Array.getElem?_eq_getElem hj1
          refine ⟨j + 1, ⟨by omega, by go_num, rfl⟩, ?_, HT.out.trans ((Tch.refl _ _).setCell (.inl (by simp)) _)⟩
          rw [heap_setCell_cells HX.out]
          have e := ptext_step s.data.toList j s[j] hj2 hb
          simp only [secA, ← e]
          rw [← bytesA_set]
          rfl
      · have hfull := ptext_full s.data.toList j (by omega)
        have HF := Lib.hid hfull
        clear hX hfull
        (go_wp2_with (first | ((with_reducible apply wc_load_var pageT HX.out); exact rfl; go_frame) | ((with_reducible apply wc_store_var pageT HB.out); exact rfl; exact rfl; go_frame)); refine bodyPost_ret (res_cell pageT.agg rfl _ rfl (setRow_heap _ _ _ _ _ _ HB.out) (size_secA _)) rfl ?_; refine ⟨by rw [HF.out], ?_⟩; have t1 : Tch [w.heap.size, w.heap.size + 1] w wr := Tch.trans (by rw [HW1.out]; exact ((Tch.refl _ _).alloc _).alloc _) (HT.out.mono (by simp)); exact (t1.setRow (.inl (by simp)) _).drop (by simp))
    · have hfull := ptext_full s.data.toList j (.inr (by rw [Array.length_toList]; show s.size ≤ j; omega))
      have HF := Lib.hid hfull
      clear hX hfull
      (go_wp2_with (first | ((with_reducible apply wc_load_var pageT HX.out); exact rfl; go_frame) | ((with_reducible apply wc_store_var pageT HB.out); exact rfl; exact rfl; go_frame)); refine bodyPost_ret (res_cell pageT.agg rfl _ rfl (setRow_heap _ _ _ _ _ _ HB.out) (size_secA _)) rfl ?_; refine ⟨by rw [HF.out], ?_⟩; have t1 : Tch [w.heap.size, w.heap.size + 1] w wr := Tch.trans (by rw [HW1.out]; exact ((Tch.refl _ _).alloc _).alloc _) (HT.out.mono (by simp)); exact (t1.setRow (.inl (by simp)) _).drop (by simp))
end Go.Proofs.YtkjgbhpnlgcinaaGreatDoor
/-
  The images of an operation: package ciboriumlaw08's images.
-/
namespace Go.Cib
open Go Go.RowKit
/-- Numbers and texts in memory (an operation's pages, its texts). -/
def TextsAt (w : World) (a : Option Addr) (l : List ByteArray) : Prop := ∀ (j : Nat) (s : ByteArray), l[j]? = some s → ∃ b o : Nat, a = some ⟨b, o, none⟩ ∧ w.cell? ⟨b, o + j, none⟩ = some (.string s)
theorem TextsAt.later {w w' : World} {a : Option Addr} {l : List ByteArray} (h : TextsAt w a l) (ht : Tch [] w w') : TextsAt w' a l := by
  intro j n hj
  obtain ⟨b, o, e, hc⟩ := h j n hj
  exact ⟨b, o, e, cell_old ht hc⟩
def PagesAt (w : World) (a : Option Addr) (l : List Int) : Prop := ∀ (j : Nat) (n : Int), l[j]? = some n → ∃ b o : Nat, a = some ⟨b, o, none⟩ ∧ w.cell? ⟨b, o + j, none⟩ = some (.int .i64 n)
theorem PagesAt.later {w w' : World} {a : Option Addr} {l : List Int} (h : PagesAt w a l) (ht : Tch [] w w') : PagesAt w' a l := by
  intro j n hj
  obtain ⟨b, o, e, hc⟩ := h j n hj
  exact ⟨b, o, e, cell_old ht hc⟩
/-- The images of an operation. -/
def imgOf (pages : List Int) (texts : List ByteArray) (j : Nat) : Int × Page := (pages.getD j 0, match texts[j]? with | some s => Arr.text s.data.toList | none => Arr.zero)
def imgsOf (pages : List Int) (texts : List ByteArray) : List (Int × Page) := (List.range (min pages.length 200)).map (imgOf pages texts)
end Go.Cib
namespace Go.Cib
open Go Go.RowKit
section
variable {P : Program} {T e : TypeId} {ops : Array Oper} {rest : List Oper} {a : Act} {w : World} {Q : Exit → Act → World → Prop} {dst : Option Tmp} {ty : TypeId} {pos : String} {af : Array Edge} {x y : Operand}
/-- A whole image out of a variable; a page into one. -/
theorem wc_load_imgvar (hT : AggT P T 481) {n : Int} {p : Page} {b : Nat} {fr : Nat × Nat} (hb : w.heap[b]? = some (.cells (imageA n p) e fr)) (hx : a.eval x = .pointer (some ⟨b, 0, none⟩))
    (h : wpList P ops Q rest (a.put dst (.agg (imageA n p))) w) : wpList P ops Q (⟨dst, .load T x, ty, pos, af, none⟩ :: rest) a w := by
  refine wc_value rfl ?_ h
  rw [exec_load_agg hT rfl hx hb (by rw [size_imageA]; omega)]
  have h2 := Array.extract_size (xs := imageA n p)
  rw [size_imageA] at h2
  rw [Nat.zero_add, h2]
theorem wc_store_pagevar (hT : AggT P T 480) {n : Int} {p q : Page} {b : Nat} (hb : w.heap[b]? = some (.cells (imageA n p) e)) (hx : a.eval x = .pointer (some ⟨b, 1, none⟩)) (hy : a.eval y = .agg (secA q))
    (h : wpList P ops Q rest (a.put dst undef) (w.setRow b (imageA n q))) : wpList P ops Q (⟨dst, .store T x y, ty, pos, af, none⟩ :: rest) a w := by
  refine wc_done rfl ?_ h
  rw [exec_store_agg hT rfl hx hy (size_secA q) (secA_one q) hb (by rw [size_imageA]; omega), spl_imagePage]
end
end Go.Cib
namespace Go.Proofs.YtkjgbhpnlgcinaaGreatDoor
open Go.RowKit Go.Cib
end Go.Proofs.YtkjgbhpnlgcinaaGreatDoor
