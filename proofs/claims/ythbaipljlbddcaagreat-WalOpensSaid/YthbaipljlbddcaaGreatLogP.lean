/-
  The frame at a place of the log: package wal's at.
-/
import Derived.Test.YthbaipljlbddcaaGreatLogO
import Derived.Test.YthbaipljlbddcaaGreatRegion5
namespace Go.Cib
open Go Go.RowKit
theorem res_cell_two {P : Program} {fn : Func} {p t u : Tmp} {T : TypeId} {n : Nat} (hT : AggT P T n) (h : fn.results = #[.cell p T, .tmp t, .tmp u]) (tmps : Array Value) {w : World} {b : Nat} {c : Array Value} {e : TypeId} {fr : Nat × Nat}
    (hp : tmps.getD p undef = .pointer (some ⟨b, 0, none⟩)) (hb : w.heap[b]? = some (.cells c e fr)) (hc : c.size = n) : (results fn tmps).run P w = .ok (.tuple #[.agg c, tmps.getD t undef, tmps.getD u undef]) w := by
  have hl := run_loadVar_agg (P := P) hT w b 0 c e fr hb (by omega)
  rw [Nat.zero_add, ← hc, Array.extract_size] at hl
  have hp' : tmps[p]?.getD undef = .pointer (some ⟨b, 0, none⟩) := by simpa using hp
  simp [results, h, hp', asAddr, hl]
theorem frame_cell {w : World} {b : Nat} {f : FrameV} {e : TypeId} {fr : Nat × Nat} (h : w.heap[b]? = some (.cells (frameA f) e fr)) :
    w.cell? ⟨b, 0, none⟩ = some (.int .u8 f.kind.toNat) ∧ w.cell? ⟨b, 1, none⟩ = some (.int .u64 f.gen) ∧ w.cell? ⟨b, 2, none⟩ = some (.int .u64 f.num) ∧ w.cell? ⟨b, 3, none⟩ = some (.int .u32 f.idx) := by
  refine ⟨?_, ?_, ?_, ?_⟩
  all_goals (rw [cell_of_row w b _ _ _ _ h]; unfold frameA; rw [Array.getElem?_append_left (by simp)]; rfl)
end Go.Cib
namespace Go.Proofs.YthbaipljlbddcaaGreat
open Go.RowKit Go.Cib
/-- A disk that is alive reads. -/
theorem read_alive {D : DiskS} (hd : D.dead = false) {i : Nat} (hi : i < D.lasts.length) : D.read (i : Int) = (D.at_ (i : Int), 0) := by
  have hm : D.may (i : Int) = 0 := by unfold DiskS.may; rw [if_neg (by simp [hd]), if_neg (by omega), if_neg (by omega)]
  unfold DiskS.read
  rw [if_pos hm]

set_option maxRecDepth 20000 in
set_option maxHeartbeats 2000000 in
theorem at_any {w : World} {g d L M V : Nat} {S : LogS} (h : LogAt w g d L M V S) (hd : S.disk.dead = false) (hs : 2 + S.log ≤ S.disk.lasts.length) (place : Nat) (hp : place ≤ 100000) (kind : UInt8) :
    Calls Tryz.prog 73 #[.pointer (some ⟨g, 0, none⟩), .int .i64 place, .int .u8 kind.toNat] w fun e w' =>
      e = .returned (.tuple #[.agg (frameA (S.atF place)), .bool (S.atOk place kind), .int .i64 0]) ∧ Tch [] w w' := by
  obtain ⟨W, hW⟩ : ∃ W, w.alloc (.cells (frameA FrameV.zero) 105) = W := ⟨_, rfl⟩
  have tW : Tch [] w W := by rw [← hW]; exact (Tch.refl _ _).alloc _
  have bW : W.heap[w.heap.size]? = some (.cells (frameA FrameV.zero) 105) := by rw [← hW]; exact heap_alloc_new _ _
  have hWs : w.heap.size < W.heap.size := lt_of_heap bW
  have h1 := h.touch tW (by simp) (by simp) (by simp) (by simp) (by simp)
  have c1 := h1.cell 1 rfl
  have c0 := h1.cell 0 rfl
  have HW := Lib.hid hW
  have TW := Lib.hid tW
  have BW := Lib.hid bW
  have H1 := Lib.hid h1
  clear hW tW bW h1 h
  by_cases hpl : place < S.log
  · have hpl' : (place : Int) < S.log := by omega
    obtain ⟨s, hsx⟩ : ∃ s, S.disk.at_ ((2 + place : Nat) : Int) = s := ⟨_, rfl⟩
    obtain ⟨f, hf⟩ : ∃ f, parse s = f := ⟨_, rfl⟩
    have hr : S.disk.read (2 + place) = (s, 0) := by
      have := read_alive hd (i := 2 + place) (by omega)
      rw [hsx] at this
      exact this
    have eF : S.atF place = f := by unfold LogS.atF; rw [if_pos hpl, hsx, hf]
    have eO : S.atOk place kind = (decide (f.sector = s) && decide (f.kind = kind) && decide (f.gen = S.gen) && decide (f.num = S.records)) := by
      unfold LogS.atOk
      rw [eF, hsx, hf, decide_eq_true hpl, Bool.true_and]
    have hfo : f.Ok := hf ▸ parse_ok s
    have EF := Lib.hid eF
    have EO := Lib.hid eO
    have HR := Lib.hid hr
    have HF := Lib.hid hf
    have WP : wrap64 (2 + (place : Int)) = 2 + place := by unfold wrap64; omega
    clear eF eO hr hf hsx
    go_enter Tryz.func73, Tryz.ntmps73
    go_upto_region 1 with ((with_reducible refine wc_alloc_frame frameTT ?_); go_frame)
    rw [HW.out]
    go_upto_region 6 with (first | (go_at_call 46; refine (read_any H1.out.hD _).mono ?_; rintro e w2 ⟨rfl, q1⟩; rw [HR.out]; have T2 := Lib.hid q1; clear q1) | ((with_reducible refine wc_alloc_arr secT ?_); go_frame; (try simp only [World.size_alloc])) | ((with_reducible apply wc_store_new secT); exact rfl; exact rfl; go_frame))
    obtain ⟨w3, hw3⟩ : ∃ w3, w2.alloc (.cells (secA s) 26) = w3 := ⟨_, rfl⟩
    have HW3 := Lib.hid hw3
    have b3 : Hid (w3.heap[w2.heap.size]? = some (.cells (secA s) 26)) := by show _ = _; rw [← hw3]; exact heap_alloc_new _ _
    have T3 : Hid (Tch [] W w3) := by show Tch _ _ _; rw [← hw3]; exact T2.out.alloc _
    rw [hw3]
    clear hw3 c1 c0
    go_upto_region 7 with (first | ((with_reducible apply wc_load_var secT b3.out); exact rfl; go_frame) | (go_at_call 53; refine (wread_any s _).mono ?_; rintro e w4 ⟨rfl, q1⟩; rw [HF.out]; have T4 := Lib.hid q1; clear q1) | ((with_reducible refine wc_alloc_frame frameTT ?_); go_frame) | ((with_reducible apply wc_store_frame frameTT (heap_alloc_new w4 (.cells (frameA FrameV.zero) 105)) (g := f)); exact rfl; exact rfl; go_frame; rw [setRow_alloc_new]))
    obtain ⟨F, hF⟩ : ∃ F, w4.heap.size = F := ⟨_, rfl⟩
    obtain ⟨W5, hW5⟩ : ∃ W5, w4.alloc (.cells (frameA f) 105) = W5 := ⟨_, rfl⟩
    have b5 : W5.heap[F]? = some (.cells (frameA f) 105) := by rw [← hW5, ← hF]; exact heap_alloc_new _ _
    have t5 : Tch [] W W5 := by rw [← hW5]; exact ((T3.out.trans T4.out)).alloc _
    have hFw : w.heap.size < F := by have h1 := T3.out.size; have h2 := T4.out.size; omega
    have bR5 := t5.heap BW.out (by simp)
    obtain ⟨W6, hW6⟩ : ∃ W6, W5.setRow w.heap.size (frameA f) = W6 := ⟨_, rfl⟩
    have t56 : Tch [w.heap.size] W5 W6 := by rw [← hW6]; exact (Tch.refl _ _).setRow (.inl (by simp)) _
    have bF6 := t56.heap b5 (by simp; omega)
    have b6 : W6.heap[w.heap.size]? = some (.cells (frameA f) 105) := by rw [← hW6]; exact setRow_heap _ _ _ _ _ _ bR5
    have h5 := H1.out.touch t5 (by simp) (by simp) (by simp) (by simp) (by simp)
    have hgw : g < w.heap.size := by
      have hg1 := lt_of_heap H1.out.hg
      have hg2 : W.heap.size = w.heap.size + 1 := by rw [← HW.out]; simp
      rcases Nat.lt_or_ge g w.heap.size with hlt | hge
      · exact hlt
      · exfalso
        have hgeq : g = w.heap.size := by omega
        have hh := H1.out.hg
        rw [hgeq, BW.out] at hh
        have := congrArg (fun o => match o with | some (Obj.cells c _ _) => c.size | _ => 0) hh
        simp [size_frameA] at this
    have g56 : ∀ j : Nat, W6.cell? ⟨g, j, none⟩ = W5.cell? ⟨g, j, none⟩ := fun j => World.cell?_of_block (w := W5) (t56.block g (lt_of_heap h5.hg) (by simp; omega))
    obtain ⟨q0, q1, q2, _⟩ := frame_cell b5
    obtain ⟨r0, r1, r2, _⟩ := frame_cell bF6
    have CC : Hid (∀ b : Bool, (cond b W6 W5).cell? ⟨F, 0, none⟩ = some (.int .u8 f.kind.toNat) ∧ (cond b W6 W5).cell? ⟨F, 1, none⟩ = some (.int .u64 f.gen) ∧ (cond b W6 W5).cell? ⟨F, 2, none⟩ = some (.int .u64 f.num) ∧
        (cond b W6 W5).cell? ⟨g, 3, none⟩ = some (.int .u64 S.gen) ∧ (cond b W6 W5).cell? ⟨g, 5, none⟩ = some (.int .u64 S.records) ∧ (cond b W6 W5).heap[F]? = some (.cells (frameA f) 105)) := fun b => by
      cases b
      · exact ⟨q0, q1, q2, h5.cell 3 rfl, h5.cell 5 rfl, b5⟩
      · exact ⟨r0, r1, r2, (g56 3).trans (h5.cell 3 rfl), (g56 5).trans (h5.cell 5 rfl), bF6⟩
    have B5 : Hid (∀ n, (W5.drewN n).heap[w.heap.size]? = some (.cells (frameA FrameV.zero) 105)) := fun n => bR5
    have B6 : Hid (∀ n, (W6.drewN n).heap[w.heap.size]? = some (.cells (frameA f) 105)) := fun n => b6
    have H6 := Lib.hid hW6
    have T6 : Hid (Tch [] w W6) := tch_own (TW.out.trans t5) t56 (by simp)
    have HFF := Lib.hid hF
    have HW5 := Lib.hid hW5
    rw [hF, hW5]
    clear hF hW5 b5 t5 bR5 hW6 t56 bF6 b6 h5 g56 q0 q1 q2 r0 r1 r2 b3 HW3 T3 T4 T2
    by_cases h1 : f.sector = s
    · by_cases h2 : f.kind = kind
      · by_cases h3 : f.gen = S.gen
        · by_cases h4 : f.num = S.records
          · have p1 : decide (f.sector = s) = true := by simp [h1]
            rw [p1]
            have p2 : ((f.kind.toNat : Int) == kind.toNat) = true := by simp [h2]
            have p3 : ((f.gen : Int) == S.gen) = true := by simp [h3]
            have p4 : ((f.num : Int) == S.records) = true := by simp [h4]
            (try have G1 := Lib.hid h1); (try have G2 := Lib.hid h2); (try have G3 := Lib.hid h3); (try have G4 := Lib.hid h4); (try clear h4); (try clear h3); (try clear h2); (try clear h1); clear p1
            refine wp_region_walk_end 26 (fun b w' => ∃ n, w' = World.drewN (cond b W6 W5) n) (by kernel_rfl) (by kernel_rfl) rfl (N := 65) rfl (by kernel_rfl) ⟨1, rfl⟩ ?_; apply Exists.intro; refine ⟨?_, ?_, ?_⟩
            ·
              intro b
              have k0 := (CC.out b).1
              have k1 := (CC.out b).2.1
              have k2 := (CC.out b).2.2.1
              have k3 := (CC.out b).2.2.2.1
              have k5 := (CC.out b).2.2.2.2.1
              have KF : Hid (∀ w', (∃ n, w' = World.drewN (cond b W6 W5) n) → w'.heap[F]? = some (.cells (frameA f) 105)) := fun w' ⟨n, hn⟩ => by subst hn; exact (CC.out b).2.2.2.2.2
              simp only [List.take_succ_cons, List.take_zero]
              (repeat (first | ((with_reducible refine wq_load_frame frameTT KF.out ?_ ?_ ?_); exact rfl; exact rfl; go_frame) | go_big_quiet_step (fail)))
              refine wpQuiet_nil ?_
              exact rfl
            ·
              intro o W ho hW
              simp only [List.getElem?_cons_zero, List.getElem?_cons_succ, Option.some.injEq] at ho
              subst ho
              obtain ⟨n, rfl⟩ := hW
              refine ⟨rfl, ?_⟩
              exact stpR_skip (exec_store_frame (g := f) frameTT rfl (B5.out n) rfl rfl) ⟨rfl, n, by rw [← H6.out]; rfl⟩
            ·
              rintro wZ ⟨n, rfl⟩
              simp only [cond_true, List.drop_succ_cons, List.drop_zero]
              go_wp2_with fail
              refine bodyPost_ret (res_cell_two frameT rfl _ rfl (B6.out n) (size_frameA _)) rfl ?_
              rw [EF.out, EO.out]
              refine ⟨by simp [G1.out, G2.out, G3.out, G4.out], ?_⟩
              exact T6.out.trans (tch_drewN W6 n)
          · have p1 : decide (f.sector = s) = true := by simp [h1]
            rw [p1]
            have p2 : ((f.kind.toNat : Int) == kind.toNat) = true := by simp [h2]
            have p3 : ((f.gen : Int) == S.gen) = true := by simp [h3]
            have p4 : ((f.num : Int) == S.records) = false := by simp; omega
            (try have G1 := Lib.hid h1); (try have G2 := Lib.hid h2); (try have G3 := Lib.hid h3); (try have G4 := Lib.hid h4); (try clear h4); (try clear h3); (try clear h2); (try clear h1); clear p1
            refine wp_region_walk_end 26 (fun b w' => ∃ n, w' = World.drewN (cond b W6 W5) n) (by kernel_rfl) (by kernel_rfl) rfl (N := 65) rfl (by kernel_rfl) ⟨1, rfl⟩ ?_; apply Exists.intro; refine ⟨?_, ?_, ?_⟩
            ·
              intro b
              have k0 := (CC.out b).1
              have k1 := (CC.out b).2.1
              have k2 := (CC.out b).2.2.1
              have k3 := (CC.out b).2.2.2.1
              have k5 := (CC.out b).2.2.2.2.1
              have KF : Hid (∀ w', (∃ n, w' = World.drewN (cond b W6 W5) n) → w'.heap[F]? = some (.cells (frameA f) 105)) := fun w' ⟨n, hn⟩ => by subst hn; exact (CC.out b).2.2.2.2.2
              simp only [List.take_succ_cons, List.take_zero]
              (repeat (first | ((with_reducible refine wq_load_frame frameTT KF.out ?_ ?_ ?_); exact rfl; exact rfl; go_frame) | go_big_quiet_step (fail)))
              refine wpQuiet_nil ?_
              exact rfl
            ·
              intro o W ho hW
              simp only [List.getElem?_cons_zero, List.getElem?_cons_succ, Option.some.injEq] at ho
              subst ho
              obtain ⟨n, rfl⟩ := hW
              refine ⟨rfl, ?_⟩
              exact stpR_skip (exec_store_frame (g := f) frameTT rfl (B5.out n) rfl rfl) ⟨rfl, n, by rw [← H6.out]; rfl⟩
            ·
              rintro wZ ⟨n, rfl⟩
              simp only [cond_true, List.drop_succ_cons, List.drop_zero]
              go_wp2_with fail
              refine bodyPost_ret (res_cell_two frameT rfl _ rfl (B6.out n) (size_frameA _)) rfl ?_
              rw [EF.out, EO.out]
              refine ⟨by simp [G1.out, G2.out, G3.out, G4.out], ?_⟩
              exact T6.out.trans (tch_drewN W6 n)
        · have p1 : decide (f.sector = s) = true := by simp [h1]
          rw [p1]
          have p2 : ((f.kind.toNat : Int) == kind.toNat) = true := by simp [h2]
          have p3 : ((f.gen : Int) == S.gen) = false := by simp; omega
          (try have G1 := Lib.hid h1); (try have G2 := Lib.hid h2); (try have G3 := Lib.hid h3); (try have G4 := Lib.hid h4); (try clear h4); (try clear h3); (try clear h2); (try clear h1); clear p1
          refine wp_region_walk_end 26 (fun b w' => ∃ n, w' = World.drewN (cond b W6 W5) n) (by kernel_rfl) (by kernel_rfl) rfl (N := 65) rfl (by kernel_rfl) ⟨1, rfl⟩ ?_; apply Exists.intro; refine ⟨?_, ?_, ?_⟩
          ·
            intro b
            have k0 := (CC.out b).1
            have k1 := (CC.out b).2.1
            have k2 := (CC.out b).2.2.1
            have k3 := (CC.out b).2.2.2.1
            have k5 := (CC.out b).2.2.2.2.1
            have KF : Hid (∀ w', (∃ n, w' = World.drewN (cond b W6 W5) n) → w'.heap[F]? = some (.cells (frameA f) 105)) := fun w' ⟨n, hn⟩ => by subst hn; exact (CC.out b).2.2.2.2.2
            simp only [List.take_succ_cons, List.take_zero]
            (repeat (first | ((with_reducible refine wq_load_frame frameTT KF.out ?_ ?_ ?_); exact rfl; exact rfl; go_frame) | go_big_quiet_step (fail)))
            refine wpQuiet_nil ?_
            exact rfl
          ·
            intro o W ho hW
            simp only [List.getElem?_cons_zero, List.getElem?_cons_succ, Option.some.injEq] at ho
            subst ho
            obtain ⟨n, rfl⟩ := hW
            refine ⟨rfl, ?_⟩
            exact stpR_skip (exec_store_frame (g := f) frameTT rfl (B5.out n) rfl rfl) ⟨rfl, n, by rw [← H6.out]; rfl⟩
          ·
            rintro wZ ⟨n, rfl⟩
            simp only [cond_true, List.drop_succ_cons, List.drop_zero]
            go_wp2_with fail
            refine bodyPost_ret (res_cell_two frameT rfl _ rfl (B6.out n) (size_frameA _)) rfl ?_
            rw [EF.out, EO.out]
            refine ⟨by simp [G1.out, G2.out, G3.out], ?_⟩
            exact T6.out.trans (tch_drewN W6 n)
      · have p1 : decide (f.sector = s) = true := by simp [h1]
        rw [p1]
        have p2 : ((f.kind.toNat : Int) == kind.toNat) = false := by
          simp only [beq_eq_false_iff_ne, ne_eq]
          intro e
          exact h2 (UInt8.toNat_inj.1 (by omega))
        (try have G1 := Lib.hid h1); (try have G2 := Lib.hid h2); (try have G3 := Lib.hid h3); (try have G4 := Lib.hid h4); (try clear h4); (try clear h3); (try clear h2); (try clear h1); clear p1
        refine wp_region_walk_end 26 (fun b w' => ∃ n, w' = World.drewN (cond b W6 W5) n) (by kernel_rfl) (by kernel_rfl) rfl (N := 65) rfl (by kernel_rfl) ⟨1, rfl⟩ ?_; apply Exists.intro; refine ⟨?_, ?_, ?_⟩
        ·
          intro b
          have k0 := (CC.out b).1
          have k1 := (CC.out b).2.1
          have k2 := (CC.out b).2.2.1
          have k3 := (CC.out b).2.2.2.1
          have k5 := (CC.out b).2.2.2.2.1
          have KF : Hid (∀ w', (∃ n, w' = World.drewN (cond b W6 W5) n) → w'.heap[F]? = some (.cells (frameA f) 105)) := fun w' ⟨n, hn⟩ => by subst hn; exact (CC.out b).2.2.2.2.2
          simp only [List.take_succ_cons, List.take_zero]
          (repeat (first | ((with_reducible refine wq_load_frame frameTT KF.out ?_ ?_ ?_); exact rfl; exact rfl; go_frame) | go_big_quiet_step (fail)))
          refine wpQuiet_nil ?_
          exact rfl
        ·
          intro o W ho hW
          simp only [List.getElem?_cons_zero, List.getElem?_cons_succ, Option.some.injEq] at ho
          subst ho
          obtain ⟨n, rfl⟩ := hW
          refine ⟨rfl, ?_⟩
          exact stpR_skip (exec_store_frame (g := f) frameTT rfl (B5.out n) rfl rfl) ⟨rfl, n, by rw [← H6.out]; rfl⟩
        ·
          rintro wZ ⟨n, rfl⟩
          simp only [cond_true, List.drop_succ_cons, List.drop_zero]
          go_wp2_with fail
          refine bodyPost_ret (res_cell_two frameT rfl _ rfl (B6.out n) (size_frameA _)) rfl ?_
          rw [EF.out, EO.out]
          refine ⟨by simp [G1.out, G2.out], ?_⟩
          exact T6.out.trans (tch_drewN W6 n)
    · have p1 : decide (f.sector = s) = false := by simp [h1]
      rw [p1]
      (try have G1 := Lib.hid h1); (try have G2 := Lib.hid h2); (try have G3 := Lib.hid h3); (try have G4 := Lib.hid h4); (try clear h4); (try clear h3); (try clear h2); (try clear h1); clear p1
      refine wp_region_walk_end 26 (fun b w' => ∃ n, w' = World.drewN (cond b W6 W5) n) (by kernel_rfl) (by kernel_rfl) rfl (N := 65) rfl (by kernel_rfl) ⟨1, rfl⟩ ?_; apply Exists.intro; refine ⟨?_, ?_, ?_⟩
      ·
        intro b
        have k0 := (CC.out b).1
        have k1 := (CC.out b).2.1
        have k2 := (CC.out b).2.2.1
        have k3 := (CC.out b).2.2.2.1
        have k5 := (CC.out b).2.2.2.2.1
        have KF : Hid (∀ w', (∃ n, w' = World.drewN (cond b W6 W5) n) → w'.heap[F]? = some (.cells (frameA f) 105)) := fun w' ⟨n, hn⟩ => by subst hn; exact (CC.out b).2.2.2.2.2
        simp only [List.take_succ_cons, List.take_zero]
        (repeat (first | ((with_reducible refine wq_load_frame frameTT KF.out ?_ ?_ ?_); exact rfl; exact rfl; go_frame) | go_big_quiet_step (fail)))
        refine wpQuiet_nil ?_
        exact rfl
      ·
        intro o W ho hW
        simp only [List.getElem?_cons_zero, List.getElem?_cons_succ, Option.some.injEq] at ho
        subst ho
        obtain ⟨n, rfl⟩ := hW
        refine ⟨rfl, ?_⟩
        exact stpR_skip (exec_store_frame (g := f) frameTT rfl (B5.out n) rfl rfl) ⟨rfl, n, by rw [← H6.out]; rfl⟩
      ·
        rintro wZ ⟨n, rfl⟩
        simp only [cond_true, List.drop_succ_cons, List.drop_zero]
        go_wp2_with fail
        refine bodyPost_ret (res_cell_two frameT rfl _ rfl (B6.out n) (size_frameA _)) rfl ?_
        rw [EF.out, EO.out]
        refine ⟨by simp [G1.out], ?_⟩
        exact T6.out.trans (tch_drewN W6 n)
  · have hpl' : (S.log : Int) ≤ place := by omega
    have eF : S.atF place = FrameV.zero := by unfold LogS.atF; rw [if_neg hpl]; rfl
    have eO : S.atOk place kind = false := by unfold LogS.atOk; rw [decide_eq_false hpl]; simp
    have EF := Lib.hid eF
    have EO := Lib.hid eO
    have FILL : Hid (fillF FrameV.zero [] = some (frameA FrameV.zero)) := rfl
    clear eF eO
    go_enter Tryz.func73, Tryz.ntmps73
    go_upto_region 1 with ((with_reducible refine wc_alloc_frame frameTT ?_); go_frame)
    rw [HW.out]
    go_wp2_with (first | ((with_reducible refine wc_build_fr FILL.out ?_ ?_); exact rfl; go_frame) | ((with_reducible apply wc_store_frame frameTT BW.out (g := FrameV.zero)); exact rfl; exact rfl; go_frame))
    refine bodyPost_ret (res_cell_two frameT rfl _ rfl (setRow_heap _ _ _ _ _ _ BW.out) (size_frameA _)) rfl ?_
    rw [EF.out, EO.out]
    exact ⟨rfl, TW.out.setRow (.inr (Nat.le_refl _)) _⟩
end Go.Proofs.YthbaipljlbddcaaGreat
