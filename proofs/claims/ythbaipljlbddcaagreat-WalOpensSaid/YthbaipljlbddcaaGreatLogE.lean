/-
  An empty log is laid: package wal's Format.
-/
import Derived.Test.YthbaipljlbddcaaGreatLogD
namespace Go.Proofs.YthbaipljlbddcaaGreat
open Go.RowKit Go.Cib
theorem run_build_log (x : Option Addr) (a b : Int) (w : World) : (Instr.build 91 #[(0, .pointer x), (1, .int .i64 a), (2, .int .i64 b), (3, .int .u64 1)]).run Tryz.prog w = .ok (.agg #[.pointer x, .int .i64 a, .int .i64 b, .int .u64 1, .int .i64 0, .int .u64 0, .map none, .bool false]) w := by kernel_rfl
theorem exec_build_log {a : Act} {w : World} {dst : Option Tmp} {ty : TypeId} {pos : String} {af : Array Edge} {gd : Option (Nat × Bool)} {i j k : Nat} {x : Option Addr} {m n : Int} (hx : a.tmps[i]?.getD undef = .pointer x) (hm : a.tmps[j]?.getD undef = .int .i64 m) (hn : a.tmps[k]?.getD undef = .int .i64 n) :
    (execOp a.eval ⟨dst, .build 91 #[(0, .tmp i), (1, .tmp j), (2, .tmp k), (3, .const (.int .u64 1))], ty, pos, af, gd⟩).run Tryz.prog w = .ok (.value (.agg #[.pointer x, .int .i64 m, .int .i64 n, .int .u64 1, .int .i64 0, .int .u64 0, .map none, .bool false])) w := by
  have h := run_build_log x m n w
  unfold execOp
  simp [Act.eval, hx, hm, hn, h]
set_option maxRecDepth 20000 in
theorem cf_size (args : Array Value) (w : World) : (callFunc 38 args).run Tryz.prog w = .ok (.enter 38 args) w := rfl
def KFmt (w0 : World) (d len log : Nat) : Nat → Value → World → Prop
  | 0, v, _ => v = .pointer (some ⟨d, 0, none⟩)
  | 1, v, _ => v = .int .i64 log
  | 2, v, _ => v = .pointer (some ⟨d, 0, none⟩)
  | 3, v, _ => v = .int .i64 len
  | 4, v, _ => v = .int .i64 (len - 2)
  | 5, v, _ => v = .int .i64 log
  | 6, v, _ => v = .int .i64 (len - 2 - log)
  | 7, v, _ => v = .agg #[.pointer (some ⟨d, 0, none⟩), .int .i64 log, .int .i64 (len - 2 - log), .int .u64 1, .int .i64 0, .int .u64 0, .map none, .bool false]
  | 8, v, w => ∃ G, v = .pointer (some ⟨G, 0, none⟩) ∧ w0.heap.size ≤ G ∧ w.heap[G]? = some (.cells #[.pointer (some ⟨d, 0, none⟩), .int .i64 log, .int .i64 (len - 2 - log), .int .u64 1, .int .i64 0, .int .u64 0, .map none, .bool false] 91)
  | _, v, w => ∃ G, v = .pointer (some ⟨G, 0, none⟩) ∧ w0.heap.size ≤ G ∧ w.heap[G]? = some (.cells #[.pointer none] 41)
theorem KFmt.later {w0 : World} {d len log : Nat} {j : Nat} {v : Value} {w w' : World} (h : KFmt w0 d len log j v w) (ht : Tch [] w w') : KFmt w0 d len log j v w' := by
  unfold KFmt at h ⊢
  split at h <;> first | exact h | (obtain ⟨k, e, h1, hk⟩ := h; exact ⟨k, e, h1, ht.heap hk (by simp)⟩)

set_option maxRecDepth 20000 in
theorem fmt1_step {g d L M Bd Bn Bl : Nat} {S : LogS} {W : World} (hl : S.log ≤ 4000) : StepV Tryz.prog (fun D w' => FmtAt w' g d L M Bd Bn Bl { S with disk := D } ∧ Tch [d, L, M] W w') (.func (.func 40) #[] #[.pointer (some ⟨Bn, 0, none⟩), .pointer (some ⟨Bd, 0, none⟩)]) (fun D => D.acts (LogS.fmtA S.log)) :=
  ⟨_, _, _, rfl, fun _ _ => rfl, fun D w ⟨h1, h2⟩ => (fmt1_any h1 hl).mono (by rintro e w' ⟨q1, q2, q3⟩; exact ⟨q1, q2, h2.trans q3⟩)⟩
set_option maxRecDepth 20000 in
theorem fmt2_step {g d L M Bd Bn Bl : Nat} {S : LogS} {W : World} (hl : S.log ≤ 4000) (hp : S.pages ≤ 16384) (hg : S.gen < 18446744073709551616) : StepV Tryz.prog (fun D w' => FmtAt w' g d L M Bd Bn Bl { S with disk := D } ∧ Tch [d, L, M] W w') (.func (.func 43) #[] #[.pointer (some ⟨Bl, 0, none⟩), .pointer (some ⟨Bd, 0, none⟩)]) (fun D => D.acts S.fmtB) :=
  ⟨_, _, _, rfl, fun _ _ => rfl, fun D w ⟨h1, h2⟩ => (fmt2_any h1 hl hp hg).mono (by rintro e w' ⟨q1, q2, q3⟩; exact ⟨q1, q2, h2.trans q3⟩)⟩
set_option maxRecDepth 20000 in
theorem fmt3_step {g d L M Bd Bn Bl : Nat} {S : LogS} {W : World} (hl : S.log ≤ 4000) (hp : S.pages ≤ 16384) (hg : S.gen < 18446744073709551616) : StepV Tryz.prog (fun D w' => FmtAt w' g d L M Bd Bn Bl { S with disk := D } ∧ Tch [d, L, M] W w') (.func (.func 45) #[.pointer (some ⟨g, 0, none⟩)] #[]) (fun D => D.acts S.headAs) :=
  ⟨_, _, _, rfl, fun _ _ => rfl, fun D w ⟨h1, h2⟩ => (head_f h1.lg hl hp hg).mono (by rintro e w' ⟨q1, q2, q3⟩; exact ⟨q1, h1.disk q2.hD q3, h2.trans q3⟩)⟩
theorem valsAt_row {w : World} {b : Nat} {c : Array Value} {e : TypeId} {fr : Nat × Nat} (h : w.heap[b]? = some (.cells c e fr)) : ValsAt w (some ⟨b, 0, none⟩) c.toList := by
  intro j v hj
  refine ⟨b, 0, rfl, ?_⟩
  rw [Nat.zero_add, cell_of_row w b j _ _ _ h, ← hj, Array.getElem?_toList]

set_option maxRecDepth 20000 in
set_option maxHeartbeats 1000000 in
theorem format_any {w : World} {d L M : Nat} {D : DiskS} (h : DiskAt w d L M D) (log : Int) :
    Calls Tryz.prog 13 #[.pointer (some ⟨d, 0, none⟩), .int .i64 log] w fun e w' =>
      e = .returned (.int .i64 (LogS.format D log).1) ∧ DiskAt w' d L M (LogS.format D log).2 ∧ Tch [d, L, M] w w' := by
  obtain ⟨W, hW⟩ : ∃ W, (w.alloc (.cells #[.pointer (some ⟨d, 0, none⟩)] 33)).alloc (.cells #[.int .i64 log] 3) = W := ⟨_, rfl⟩
  have hT : Tch [] w W := by rw [← hW]; exact ((Tch.refl _ _).alloc _).alloc _
  have cd : W.cell? ⟨w.heap.size, 0, none⟩ = some (.pointer (some ⟨d, 0, none⟩)) := by
    have hb : W.heap[w.heap.size]? = some (.cells #[.pointer (some ⟨d, 0, none⟩)] 33) := by rw [← hW, heap_alloc, if_neg (by simp), heap_alloc, if_pos rfl]
    rw [cell_of_row W _ 0 _ _ _ hb]; rfl
  have cn : W.cell? ⟨w.heap.size + 1, 0, none⟩ = some (.int .i64 log) := by
    have hb : W.heap[w.heap.size + 1]? = some (.cells #[.int .i64 log] 3) := by rw [← hW, heap_alloc, if_pos (by simp)]
    rw [cell_of_row W _ 0 _ _ _ hb]; rfl
  have HW := Lib.hid hW
  have HT := Lib.hid hT
  have HD := Lib.hid (h.touch hT (by simp) (by simp) (by simp))
  have hsz := h.ok.size
  have hnd : w.heap.size ≠ d := (ne_size h.hd).symm
  have hnL : w.heap.size ≠ L := (ne_size h.hL).symm
  have hnM : w.heap.size ≠ M := by have := h.hM.lt; omega
  have hlt1 : d < w.heap.size := lt_of_heap h.hd
  have hlt2 : L < w.heap.size := lt_of_heap h.hL
  have hlt3 : M < w.heap.size := h.hM.lt
  obtain ⟨len, hlen⟩ : ∃ len, D.lasts.length = len := ⟨_, rfl⟩
  rw [hlen] at hsz
  have LEN := Lib.hid hlen
  have CS : Hid (∀ w', (∃ n, w' = World.drewN W n) → Calls Tryz.prog 38 #[.pointer (some ⟨d, 0, none⟩)] w' fun e w'' => e = .returned (.int .i64 len) ∧ ∃ n, w'' = World.drewN W n) := fun w' ⟨n, hn⟩ => by
    subst hn
    exact (size_any (HD.out.touch (tch_drewN W n) (by simp) (by simp) (by simp))).mono (by rintro e w'' ⟨h1, rfl⟩; exact ⟨by rw [h1, LEN.out], n, rfl⟩)
  clear hW hT h hlen
  by_cases h1 : log < 3
  · have e : LogS.format D log = (2, D) := by unfold LogS.format; rw [if_pos h1]
    have E := Lib.hid e
    clear e
    go_enter Tryz.func13, Tryz.ntmps13
    go_upto_region 3 with fail
    rw [HW.out]
    (refine wp_region_walk (C := fun w' => ∃ n, w' = World.drewN W n) 13 (by kernel_rfl) (by kernel_rfl) ⟨1, rfl⟩ ?_; simp only [List.take_succ_cons, List.take_zero, List.drop_succ_cons, List.drop_zero]; (repeat (first | fail | go_big_quiet_step (fail))); refine wpQuiet_nil ?_; intro _ hw'; obtain ⟨nq, hw''⟩ := hw'; subst hw'')
    go_wp2_with fail
    go_ret
    rw [E.out]
    exact ⟨rfl, HD.out.touch (tch_drewN W nq) (by simp) (by simp) (by simp), (HT.out.trans (tch_drewN W nq)).mono (by simp)⟩
  by_cases h2 : 4000 < log
  · have e : LogS.format D log = (2, D) := by unfold LogS.format; rw [if_neg h1, if_pos h2]
    have E := Lib.hid e
    clear e
    go_enter Tryz.func13, Tryz.ntmps13
    go_upto_region 3 with fail
    rw [HW.out]
    (refine wp_region_walk (C := fun w' => ∃ n, w' = World.drewN W n) 13 (by kernel_rfl) (by kernel_rfl) ⟨1, rfl⟩ ?_; simp only [List.take_succ_cons, List.take_zero, List.drop_succ_cons, List.drop_zero]; (repeat (first | fail | go_big_quiet_step (fail))); refine wpQuiet_nil ?_; intro _ hw'; obtain ⟨nq, hw''⟩ := hw'; subst hw'')
    go_wp2_with fail
    go_ret
    rw [E.out]
    exact ⟨rfl, HD.out.touch (tch_drewN W nq) (by simp) (by simp) (by simp), (HT.out.trans (tch_drewN W nq)).mono (by simp)⟩
  have W1 : wrap64 (log + 3) = log + 3 := by unfold wrap64; omega
  by_cases h3 : (len : Int) < log + 3
  · have e : LogS.format D log = (2, D) := by unfold LogS.format; rw [if_neg h1, if_neg h2, LEN.out, if_pos h3]
    have E := Lib.hid e
    clear e
    go_enter Tryz.func13, Tryz.ntmps13
    go_upto_region 3 with fail
    rw [HW.out]
    (refine wp_region_walk (C := fun w' => ∃ n, w' = World.drewN W n) 13 (by kernel_rfl) (by kernel_rfl) ⟨1, rfl⟩ ?_; simp only [List.take_succ_cons, List.take_zero, List.drop_succ_cons, List.drop_zero]; (repeat (first | ((with_reducible refine wq_fn cf_size ?_ ?_ CS.out ?_); exact rfl; exact rfl; go_frame) | go_big_quiet_step (fail))); refine wpQuiet_nil ?_; intro _ hw'; obtain ⟨nq, hw''⟩ := hw'; subst hw'')
    go_wp2_with fail
    go_ret
    rw [E.out]
    exact ⟨rfl, HD.out.touch (tch_drewN W nq) (by simp) (by simp) (by simp), (HT.out.trans (tch_drewN W nq)).mono (by simp)⟩
  obtain ⟨n, rfl⟩ := Int.eq_ofNat_of_zero_le (show 0 ≤ log by omega)
  have hp : len - 2 - n ≤ 16384 := by omega
  have e : LogS.format D n = runS D [fun D => D.acts (LogS.fmtA n), fun D' => D'.acts (LogS.fresh D n).fmtB, fun D' => D'.acts (LogS.fresh D n).headAs] := by
    unfold LogS.format
    rw [if_neg h1, if_neg h2, LEN.out, if_neg h3]
    simp only [Int.toNat_natCast, runS]
    by_cases a1 : (D.acts (LogS.fmtA n)).1 = 0
    · rw [if_neg (by simp [a1]), if_pos a1]
      by_cases a2 : ((D.acts (LogS.fmtA n)).2.acts (LogS.fresh D n).fmtB).1 = 0
      · rw [if_neg (by simp [a2]), if_pos a2]
        split
        · rename_i a3; exact Prod.ext a3 rfl
        · rfl
      · rw [if_pos a2, if_neg a2]
    · rw [if_pos a1, if_neg a1]
  have E := Lib.hid e
  have Y2 : IntKind.i64.wrap ((len : Int) - 2) = len - 2 := by simp [IntKind.wrap, IntKind.bits, IntKind.signed]; omega
  have Y3 : IntKind.i64.wrap ((len : Int) - 2 - n) = len - 2 - n := by simp [IntKind.wrap, IntKind.bits, IntKind.signed]; omega
  clear e
  go_enter Tryz.func13, Tryz.ntmps13
  go_upto_region 3 with fail
  rw [HW.out]
  (refine wp_region_walk (C := fun w' => ∃ n, w' = World.drewN W n) 13 (by kernel_rfl) (by kernel_rfl) ⟨1, rfl⟩ ?_; simp only [List.take_succ_cons, List.take_zero, List.drop_succ_cons, List.drop_zero]; (repeat (first | ((with_reducible refine wq_fn cf_size ?_ ?_ CS.out ?_); exact rfl; exact rfl; go_frame) | go_big_quiet_step (fail))); refine wpQuiet_nil ?_; intro _ hw'; obtain ⟨nq, hw''⟩ := hw'; subst hw'')
  go_upto_region 5 with fail
  have HT2 := Lib.hid (HT.out.trans (tch_drewN W nq))
  have HD2 := Lib.hid (HD.out.touch (tch_drewN W nq) (by simp) (by simp) (by simp))
  have cd2 := cell_old (tch_drewN W nq) cd
  have cn2 := cell_old (tch_drewN W nq) cn
  clear CS HW HT HD cd cn
  generalize W.drewN nq = W2 at *
  have cd := cd2
  have cn := cn2
  have HD := HD2
  refine wp_region_valt 10 (fun w' => Tch [] W2 w') (KFmt W2 d len n) (by kernel_rfl) (by kernel_rfl) (by kernel_rfl) ((Tch.refl _ _).drew) (fun w4 w5 _ _ ht i v hk => hk.later ht) ?_ ?_
  · intro i o hi ho fu w' hC hold hdep
    have cd' := cell_old hC cd
    have cn' := cell_old hC cn
    have hi7 : i = 0 ∨ i = 1 ∨ i = 2 ∨ i = 3 ∨ i = 4 ∨ i = 5 ∨ i = 6 ∨ i = 7 ∨ i = 8 ∨ i = 9 := by omega
    rcases hi7 with rfl | rfl | rfl | rfl | rfl | rfl | rfl | rfl | rfl | rfl
    all_goals (simp only [List.getElem?_cons_zero, List.getElem?_cons_succ, Option.some.injEq] at ho; subst ho)
    · refine step_plain rfl ?_
      have x2 : fu.tmps[2]?.getD undef = .pointer (some ⟨w.heap.size, 0, none⟩) := ev_tmp (hold 2 (by show _ < 36; omega) (by kernel_rfl))
      go_simp
      exact ⟨rfl, Tch.refl _ _⟩
    · refine step_plain rfl ?_
      have x3 : fu.tmps[3]?.getD undef = .pointer (some ⟨w.heap.size + 1, 0, none⟩) := ev_tmp (hold 3 (by show _ < 36; omega) (by kernel_rfl))
      go_simp
      exact ⟨rfl, Tch.refl _ _⟩
    · refine step_plain rfl ?_
      have x2 : fu.tmps[2]?.getD undef = .pointer (some ⟨w.heap.size, 0, none⟩) := ev_tmp (hold 2 (by show _ < 36; omega) (by kernel_rfl))
      go_simp
      exact ⟨rfl, Tch.refl _ _⟩
    · refine step_plain rfl ?_
      have x23 : fu.tmps[23]?.getD undef = .pointer (some ⟨d, 0, none⟩) := ev_tmp (hdep 2 23 (by show _ < 36; omega) (by kernel_rfl) (by kernel_rfl))
      go_simp
      refine (size_any (HD.out.touch hC (by simp) (by simp) (by simp))).mono ?_
      rintro e w5 ⟨rfl, rfl⟩
      exact ⟨_, rfl, by rw [LEN.out]; rfl, hC, Tch.refl _ _⟩
    · refine step_plain rfl ?_
      have x24 : fu.tmps[24]?.getD undef = .int .i64 len := ev_tmp (hdep 3 24 (by show _ < 36; omega) (by kernel_rfl) (by kernel_rfl))
      go_simp
      exact ⟨rfl, Tch.refl _ _⟩
    · refine step_plain rfl ?_
      have x3 : fu.tmps[3]?.getD undef = .pointer (some ⟨w.heap.size + 1, 0, none⟩) := ev_tmp (hold 3 (by show _ < 36; omega) (by kernel_rfl))
      go_simp
      exact ⟨rfl, Tch.refl _ _⟩
    · refine step_plain rfl ?_
      have x25 : fu.tmps[25]?.getD undef = .int .i64 (len - 2) := ev_tmp (hdep 4 25 (by show _ < 36; omega) (by kernel_rfl) (by kernel_rfl))
      have x26 : fu.tmps[26]?.getD undef = .int .i64 n := ev_tmp (hdep 5 26 (by show _ < 36; omega) (by kernel_rfl) (by kernel_rfl))
      go_simp
      exact ⟨rfl, Tch.refl _ _⟩
    · refine step_plain rfl ?_
      have x21 : fu.tmps[21]?.getD undef = .pointer (some ⟨d, 0, none⟩) := ev_tmp (hdep 0 21 (by show _ < 36; omega) (by kernel_rfl) (by kernel_rfl))
      have x22 : fu.tmps[22]?.getD undef = .int .i64 n := ev_tmp (hdep 1 22 (by show _ < 36; omega) (by kernel_rfl) (by kernel_rfl))
      have x27 : fu.tmps[27]?.getD undef = .int .i64 (len - 2 - n) := ev_tmp (hdep 6 27 (by show _ < 36; omega) (by kernel_rfl) (by kernel_rfl))
      exact stpR_ok (exec_build_log x21 x22 x27) ⟨rfl, hC, Tch.refl _ _⟩
    · refine step_plain rfl ?_
      have x28 : fu.tmps[28]?.getD undef = .agg #[.pointer (some ⟨d, 0, none⟩), .int .i64 n, .int .i64 (len - 2 - n), .int .u64 1, .int .i64 0, .int .u64 0, .map none, .bool false] := ev_tmp (hdep 7 28 (by show _ < 36; omega) (by kernel_rfl) (by kernel_rfl))
      go_simp
      exact ⟨⟨_, rfl, hC.size, heap_alloc_new _ _⟩, hC.alloc _, (Tch.refl _ _).alloc _⟩
    · refine step_plain rfl ?_
      go_simp
      exact ⟨⟨_, rfl, hC.size, heap_alloc_new _ _⟩, hC.alloc _, (Tch.refl _ _).alloc _⟩
  · intro vs w2 hC hK
    obtain ⟨G, h8, hG, hgG⟩ := hK 8 (by omega)
    obtain ⟨B, h9, hB, hgB⟩ := hK 9 (by omega)
    have H8 := Lib.hid h8
    have H9 := Lib.hid h9
    have D2 := Lib.hid (HD.out.touch hC (by simp) (by simp) (by simp))
    have T2 := Lib.hid (HT2.out.trans hC)
    have G2 := Lib.hid hgG
    have B2 := Lib.hid hgB
    have cd' := cell_old hC cd
    have cn' := cell_old hC cn
    have hGB : G ≠ B := by
      rintro rfl
      rw [hgG] at hgB
      simp at hgB
    have hWw := HT2.out.size
    have hcw : w.heap.size + 1 < W2.heap.size := block_lt_of_cell cn2
    clear hK hC h8 h9 hgG hgB cd cn cd2 cn2 HD HD2 HT2
    unfold fullOf
    rw [show (List.range 10).map vs = [vs 0, vs 1, vs 2, vs 3, vs 4, vs 5, vs 6, vs 7, vs 8, vs 9] from rfl, H8.out, H9.out]
    generalize vs 0 = v0
    generalize vs 1 = v1
    generalize vs 2 = v2
    generalize vs 3 = v3
    generalize vs 4 = v4
    generalize vs 5 = v5
    generalize vs 6 = v6
    generalize vs 7 = v7
    clear H8 H9 vs
    simp only [List.take_succ_cons, List.take_zero, List.drop_succ_cons, List.drop_zero, putAll]
    go_frame
    have cB := cell_of_row w2 B 0 _ _ _ B2.out
    have fB := frozen_of_row w2 B 0 _ _ B2.out
    go_upto_region 6 with fail
    obtain ⟨w3, hw3⟩ : ∃ w3, w2.setCell ⟨B, 0, none⟩ (.pointer (some ⟨G, 0, none⟩)) = w3 := ⟨_, rfl⟩
    have t3 : Tch [B] w2 w3 := by rw [← hw3]; exact (Tch.refl _ _).setCell (by simp) _
    have cl : w3.cell? ⟨B, 0, none⟩ = some (.pointer (some ⟨G, 0, none⟩)) := by
      have hb : w3.heap[B]? = some (.cells #[.pointer (some ⟨G, 0, none⟩)] 41) := by rw [← hw3, heap_setCell_cells B2.out]; rfl
      rw [cell_of_row w3 _ 0 _ _ _ hb]; rfl
    have hcd : w3.cell? ⟨w.heap.size, 0, none⟩ = some (.pointer (some ⟨d, 0, none⟩)) := cell_touch t3 cd' (by simp; omega)
    have hcn : w3.cell? ⟨w.heap.size + 1, 0, none⟩ = some (.int .i64 n) := cell_touch t3 cn' (by have := block_lt_of_cell cn'; simp; omega)
    have hGw : w.heap.size + 1 < G := by omega
    have hBw : w.heap.size + 1 < B := by omega
    have hS : LogF w3 G d L M none (LogS.fresh D n) := by
      refine ⟨?_, D2.out.touch t3 (by simp; omega) (by simp; omega) (by simp; omega), by omega, by omega, by omega⟩
      have e : ((LogS.fresh D n).pages : Int) = len - 2 - n := by
        show ((D.lasts.length - 2 - n : Nat) : Int) = _
        rw [LEN.out]; omega
      rw [e]
      exact t3.heap G2.out (by simpa using hGB)
    have hF : FmtAt w3 G d L M w.heap.size (w.heap.size + 1) B (LogS.fresh D n) := ⟨hS, hcd, hcn, cl, by simp; omega, by simp; omega, by simp; omega⟩
    have T3 := Lib.hid (tch_own T2.out t3 (by simp; omega))
    have F3 := Lib.hid hF
    have HW3 := Lib.hid hw3
    have hpg : (LogS.fresh D n).pages ≤ 16384 := by show D.lasts.length - 2 - n ≤ _; rw [LEN.out]; exact hp
    have HPG := Lib.hid hpg
    have hmf : ∀ (fn : Fn) (first cap : Array Value) (w : World), (Instr.makeFunc fn first cap).run Tryz.prog w = .ok (.func fn first cap) w := fun _ _ _ _ => rfl
    clear t3 hS hF hw3 hcd hcn cd' cn' cB fB hpg Y2 Y3 W1
    have CALL : Hid (∀ w4, w3.alloc (.cells #[.func (.func 40) #[] #[.pointer (some ⟨w.heap.size + 1, 0, none⟩), .pointer (some ⟨w.heap.size, 0, none⟩)], .func (.func 43) #[] #[.pointer (some ⟨B, 0, none⟩), .pointer (some ⟨w.heap.size, 0, none⟩)], .func (.func 45) #[.pointer (some ⟨G, 0, none⟩)] #[]] 87) = w4 →
        Calls Tryz.prog 39 #[.slice (some ⟨w3.heap.size, 0, none⟩) 3 3] w4 fun e w' => e = .returned (.int .i64 (LogS.format D n).1) ∧ DiskAt w' d L M (LogS.format D n).2 ∧ Tch [d, L, M] w w') := by
      intro w4 hw4
      have t4 : Tch [] w3 w4 := by rw [← hw4]; exact (Tch.refl _ _).alloc _
      have hb4 := valsAt_row (w := w4) (b := w3.heap.size) (by rw [← hw4]; exact heap_alloc_new _ _)
      have hlt := lt_of_heap F3.out.lg.hD.hd
      have hlt2 := lt_of_heap F3.out.lg.hD.hL
      have hlt3 := F3.out.lg.hD.hM.lt
      have hF4 : FmtAt w4 G d L M w.heap.size (w.heap.size + 1) B (LogS.fresh D n) := ⟨F3.out.lg.touch t4 (by simp) (by simp) (by simp) (by simp), cell_old t4 F3.out.cd, cell_old t4 F3.out.cn, cell_old t4 F3.out.cl, F3.out.nd, F3.out.nn, F3.out.nl⟩
      have hl : (LogS.fresh D n).log ≤ 4000 := by show n ≤ 4000; omega
      have hg : (LogS.fresh D n).gen < 18446744073709551616 := by show 1 < _; omega
      refine (steps_any (R := fun D' w' => FmtAt w' G d L M w.heap.size (w.heap.size + 1) B { LogS.fresh D n with disk := D' } ∧ Tch [d, L, M] w4 w')
        (fs := [(.func (.func 40) #[] #[.pointer (some ⟨w.heap.size + 1, 0, none⟩), .pointer (some ⟨w.heap.size, 0, none⟩)], fun D' => D'.acts (LogS.fmtA n)), (.func (.func 43) #[] #[.pointer (some ⟨B, 0, none⟩), .pointer (some ⟨w.heap.size, 0, none⟩)], fun D' => D'.acts (LogS.fresh D n).fmtB), (.func (.func 45) #[.pointer (some ⟨G, 0, none⟩)] #[], fun D' => D'.acts (LogS.fresh D n).headAs)])
        ?_ (a := some ⟨w3.heap.size, 0, none⟩) (cap := 3) ?_ (s := D) ⟨hF4, Tch.refl _ _⟩ (by simp)).mono ?_
      · intro q hq
        simp only [List.mem_cons, List.not_mem_nil, or_false] at hq
        rcases hq with rfl | rfl | rfl
        · exact fmt1_step hl
        · exact fmt2_step hl HPG.out hg
        · exact fmt3_step hl HPG.out hg
      · rintro D' w' ⟨_, h2⟩
        intro j v hj
        obtain ⟨b, o, e, hc⟩ := hb4 j v hj
        cases e
        exact ⟨_, _, rfl, cell_touch h2 hc (by simp; omega)⟩
      · rintro e w' ⟨h1, h2, h3⟩
        simp only [List.map_cons, List.map_nil] at h1 h2
        rw [← E.out] at h1 h2
        exact ⟨h1, h2.lg.hD, ((T3.out.trans t4).mono (by simp)).trans h3⟩
    rw [HW3.out]
    have cl := F3.out.cl
    go_wp2_with (go_at_call 39; refine (CALL.out _ rfl).mono ?_; rintro e w' ⟨rfl, q2, q3⟩; have Q2 := Lib.hid q2; have Q3 := Lib.hid q3; clear q2 q3)
    go_ret
    exact ⟨rfl, Q2.out, Q3.out⟩
end Go.Proofs.YthbaipljlbddcaaGreat
