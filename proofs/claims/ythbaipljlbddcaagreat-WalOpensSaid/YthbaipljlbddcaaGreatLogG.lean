/-
  All that is in the log goes home: package wal's Checkpoint, its parts.
-/
import Derived.Test.YthbaipljlbddcaaGreatKeys
import Derived.Test.YthbaipljlbddcaaGreatLogE
namespace Go.Cib
open Go Go.RowKit
section
variable {P : Program} {ops : Array Oper} {C : World → Prop} {Qs : Act → Prop} {rest : List Oper} {a : Act} {dst : Option Tmp} {ty : TypeId} {pos : String} {af : Array Edge} {x y : Operand} {gd : Option (Nat × Bool)}
theorem wq_lookup1 {κ : Type} [DecidableEq κ] {T K E : TypeId} {key : κ → Value} {M : Nat} {f : κ → Option Value} {m k : Operand} (hK : KeyT P K key) (hT : P.underlying T = some (.map K E)) {z : Value} (hz : ∀ w, (zeroValue E).run P w = .ok z w) (hC : ∀ w, C w → MapAt key w M f)
    (hw : Region.wanted ⟨dst, .lookup T m k false, ty, pos, af, gd⟩ (yielded ops a.tmps) = true) (hm : a.eval m = .map (some M)) {kk : κ} (hk : a.eval k = key kk)
    (h : wpQuiet P ops C Qs rest (a.put dst ((f kk).getD z))) : wpQuiet P ops C Qs (⟨dst, .lookup T m k false, ty, pos, af, gd⟩ :: rest) a :=
  wq_value hw (fun w hc => exec_lookup1 rfl hK hT (hz w) hm hk (hC w hc)) h
end
theorem OwnVals.ne {w : World} {B : Nat} {e : TypeId} {v : Value} {l : List Value} (h : OwnVals w B e v l) {R : Nat} {c : Array Value} {e' : TypeId} {fr : Nat × Nat} (hR : w.heap[R]? = some (.cells c e' fr)) (ho : e' ≠ e) : R ∉ v.ownBlock.toList := by
  intro hm
  rcases h.shape with ⟨rfl, _⟩ | ⟨g, cap, cur, rfl, _, hg, _⟩
  · simp [Value.ownBlock] at hm
  · simp [Value.ownBlock] at hm
    subst hm
    rw [hg] at hR
    cases hR
    exact ho rfl
namespace LogS
def homeStep (q : Nat × Page) (S : LogS) : Int × LogS := ((S.disk.act (S.homeA q.1 q.2)).1, { S with disk := (S.disk.act (S.homeA q.1 q.2)).2 })
def flushStep (S : LogS) : Int × LogS := (S.disk.flush.1, { S with disk := S.disk.flush.2 })
theorem runS_home (ks : List (Nat × Page)) (rest : List (LogS → Int × LogS)) (S : LogS) :
    runS S (ks.map homeStep ++ rest) = if (S.disk.acts (ks.map fun q => S.homeA q.1 q.2)).1 = 0 then runS { S with disk := (S.disk.acts (ks.map fun q => S.homeA q.1 q.2)).2 } rest else
      ((S.disk.acts (ks.map fun q => S.homeA q.1 q.2)).1, { S with disk := (S.disk.acts (ks.map fun q => S.homeA q.1 q.2)).2 }) := by
  induction ks generalizing S with
  | nil => simp [DiskS.acts]
  | cons k ks ih =>
    rw [List.map_cons, List.cons_append, runS, List.map_cons, DiskS.acts_cons]
    by_cases h : (S.disk.act (S.homeA k.1 k.2)).1 = 0
    · rw [if_pos (show (homeStep k S).1 = 0 from h), if_pos h, ih]
      rfl
    · rw [if_neg (show ¬ (homeStep k S).1 = 0 from h), if_neg h, if_neg h]
      rfl
theorem runS_check (S : LogS) (hd : S.dead = false) (hu : S.used ≠ 0) : S.checkpoint = if (runS S (S.kept.map homeStep ++ [flushStep, raise])).1 = 0 then (0, (runS S (S.kept.map homeStep ++ [flushStep, raise])).2.cleared) else
    ((runS S (S.kept.map homeStep ++ [flushStep, raise])).1, { (runS S (S.kept.map homeStep ++ [flushStep, raise])).2 with dead := (runS S (S.kept.map homeStep ++ [flushStep, raise])).2.dead || (runS S (S.kept.map homeStep ++ [flushStep, raise])).1 == 6 }) := by
  have hA : S.disk.acts S.homeAs = if (S.disk.acts (S.kept.map fun q => S.homeA q.1 q.2)).1 = 0 then (S.disk.acts (S.kept.map fun q => S.homeA q.1 q.2)).2.flush else S.disk.acts (S.kept.map fun q => S.homeA q.1 q.2) := by
    unfold homeAs
    rw [DiskS.acts_append, DiskS.acts_one]
    rfl
  unfold checkpoint
  rw [if_neg (by simp [hd]), if_neg hu, runS_home, hA]
  generalize S.disk.acts (S.kept.map fun q => S.homeA q.1 q.2) = A
  by_cases h1 : A.1 = 0
  · rw [if_pos h1, if_pos h1]
    have e : ∀ S' : LogS, runS S' [flushStep, raise] = if S'.disk.flush.1 = 0 then (if ({ S' with disk := S'.disk.flush.2 } : LogS).raise.1 = 0 then (0, ({ S' with disk := S'.disk.flush.2 } : LogS).raise.2) else ({ S' with disk := S'.disk.flush.2 } : LogS).raise) else (S'.disk.flush.1, { S' with disk := S'.disk.flush.2 }) := fun S' => rfl
    rw [e]
    simp only
    by_cases h2 : A.2.flush.1 = 0
    · rw [if_neg (by simp [h2]), if_pos h2]
      by_cases h3 : ({ S with disk := A.2.flush.2 } : LogS).raise.1 = 0
      · rw [if_neg (by simp [h3]), if_pos h3, if_pos rfl]
      · rw [if_pos h3, if_neg h3, if_neg h3]
        rfl
    · rw [if_pos h2, if_neg h2, if_neg h2]
      rfl
  · rw [if_neg h1, if_neg h1, if_pos h1, if_neg h1]
    rfl
end LogS
end Go.Cib
namespace Go.Proofs.YthbaipljlbddcaaGreat
open Go.RowKit Go.Cib
theorem uMapPage : Tryz.prog.underlying 89 = some (.map 3 64) := by kernel_rfl

set_option maxRecDepth 20000 in
set_option maxHeartbeats 400000 in
theorem chk1_any {w : World} {g d L M V Bl Bp p : Nat} {S : LogS} {x : Page} (h : LogAt w g d L M V S) (cl : w.cell? ⟨Bl, 0, none⟩ = some (.pointer (some ⟨g, 0, none⟩))) (cp : w.cell? ⟨Bp, 0, none⟩ = some (.int .i64 p)) (hx : S.over p = some x)
    (hl : S.log ≤ 4000) (hp : p < 16384) (hg : S.gen < 18446744073709551616) :
    Calls Tryz.prog 66 #[.pointer (some ⟨Bl, 0, none⟩), .pointer (some ⟨Bp, 0, none⟩)] w fun e w' =>
      e = .returned (.int .i64 (S.homeStep (p, x)).1) ∧ LogAt w' g d L M V (S.homeStep (p, x)).2 ∧ Tch [d, L, M] w w' := by
  have c6 := h.cell 6 rfl
  have H := Lib.hid h
  have HM : Hid (∀ w', (∃ n, w' = World.drewN w n) → MapAt kInt w' V (fun i => (S.over i).map fun x => Value.agg (secA x))) := fun w' ⟨n, hn⟩ => by subst hn; exact h.hV.touch (tch_drewN w n) (by simp)
  have hx' : ∀ z, ((S.over (p : Int)).map fun x => Value.agg (secA x)).getD z = .agg (secA x) := fun z => by rw [hx]; rfl
  have HX := Lib.hid hx'
  have CH : Hid (∀ n, Calls Tryz.prog 44 #[.pointer (some ⟨g, 0, none⟩), .int .i64 p, .agg (secA x)] (World.drewN w n) fun e w' =>
      e = .returned (.int .i64 (S.homeStep (p, x)).1) ∧ LogAt w' g d L M V (S.homeStep (p, x)).2 ∧ Tch [d, L, M] w w') := fun n => (home_any (h.touch (tch_drewN w n) (by simp) (by simp) (by simp) (by simp) (by simp)) p x hl hp hg).mono (by
        rintro e w' ⟨h1, h2, h3⟩; exact ⟨h1, h2, ((tch_drewN w n).mono (by simp)).trans h3⟩)
  clear h hx hx'
  go_enter Tryz.func66, Tryz.ntmps66
  go_upto_region 1 with fail
  (refine wp_region_walk (C := fun w' => ∃ n, w' = World.drewN w n) 8 (by kernel_rfl) (by kernel_rfl) ⟨1, rfl⟩ ?_; simp only [List.take_succ_cons, List.take_zero, List.drop_succ_cons, List.drop_zero]; (repeat (first | (refine wq_lookup1 keyI uMapPage (fun w => pageT.zero w) HM.out ?_ ?_ (kk := (p : Int)) ?_ ?_; exact rfl; exact rfl; exact rfl; simp only [HX.out]; go_frame) | go_big_quiet_step (fail))); refine wpQuiet_nil ?_; intro _ hw'; obtain ⟨nq, hw''⟩ := hw'; subst hw'')
  go_wp2_with (go_at_call 44; refine (CH.out _).mono ?_; rintro e w' ⟨rfl, hq1, hq2⟩; have Q1 := Lib.hid hq1; have Q2 := Lib.hid hq2; clear hq1 hq2)
  go_ret
  exact ⟨rfl, Q1.out, Q2.out⟩

set_option maxRecDepth 20000 in
set_option maxHeartbeats 400000 in
theorem chk2_any {w : World} {g d L M V Bl : Nat} {S : LogS} (h : LogAt w g d L M V S) (cl : w.cell? ⟨Bl, 0, none⟩ = some (.pointer (some ⟨g, 0, none⟩))) (hBl : Bl ≠ g) (hl : S.log ≤ 4000) (hp : S.pages ≤ 16384) :
    Calls Tryz.prog 67 #[.pointer (some ⟨Bl, 0, none⟩)] w fun e w' =>
      e = .returned (.int .i64 S.raise.1) ∧ LogAt w' g d L M V S.raise.2 ∧ Tch [g, d, L, M] w w' := by
  have c3 := h.cell 3 rfl
  have f3 := h.froz 3
  obtain ⟨gn, hgn⟩ : ∃ gn, (S.gen + 1) % 18446744073709551616 = gn := ⟨_, rfl⟩
  have Wg : IntKind.u64.wrap ((S.gen : Int) + 1) = gn := by simp [IntKind.wrap, IntKind.bits, IntKind.signed]; omega
  have hn : S.next = { S with gen := gn } := by unfold LogS.next; rw [hgn]
  have ht : Tch [g] w (w.setCell ⟨g, 3, none⟩ (.int .u64 gn)) := (Tch.refl _ _).setCell (by simp) _
  have h2 : LogAt (w.setCell ⟨g, 3, none⟩ (.int .u64 gn)) g d L M V S.next := by
    rw [hn]
    refine ⟨?_, h.hD.touch ht (by simpa using h.gd.symm) (by simpa using h.gL.symm) (by simpa using h.gM.symm), h.hV.touch ht (by simpa using h.gV.symm), h.gd, h.gL, h.gM, h.gV, h.dV, h.LV, h.MV⟩
    rw [heap_setCell_cells h.hg _ _]; rfl
  have cl2 : (w.setCell ⟨g, 3, none⟩ (.int .u64 gn)).cell? ⟨Bl, 0, none⟩ = some (.pointer (some ⟨g, 0, none⟩)) := cell_touch ht cl (by simpa using hBl)
  have CH : Hid (Calls Tryz.prog 45 #[.pointer (some ⟨g, 0, none⟩)] (w.setCell ⟨g, 3, none⟩ (.int .u64 gn)) fun e w' =>
      e = .returned (.int .i64 S.raise.1) ∧ LogAt w' g d L M V S.raise.2 ∧ Tch [g, d, L, M] w w') := (head_any h2 hl hp (by rw [hn]; show gn < _; omega)).mono (by
        rintro e w' ⟨q1, q2, q3⟩; exact ⟨q1, q2, (ht.mono (by simp)).trans (q3.mono (by simp))⟩)
  have hBg : ¬ Bl = g := hBl
  clear h h2 hn ht hgn
  go_enter Tryz.func67, Tryz.ntmps67
  go_wp2_with (go_at_call 45; refine CH.out.mono ?_; rintro e w' ⟨rfl, hq1, hq2⟩; have Q1 := Lib.hid hq1; have Q2 := Lib.hid hq2; clear hq1 hq2)
  go_ret
  exact ⟨rfl, Q1.out, Q2.out⟩
end Go.Proofs.YthbaipljlbddcaaGreat
