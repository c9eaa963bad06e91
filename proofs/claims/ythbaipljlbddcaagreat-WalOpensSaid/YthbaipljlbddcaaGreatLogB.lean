/-
  The log in memory: what goes to the disk: home, head.
-/
import Derived.Test.YthbaipljlbddcaaGreatLogA
import Derived.Test.YthbaipljlbddcaaGreatNum1
import Derived.Test.YthbaipljlbddcaaGreatBuild
import Derived.Test.YthbaipljlbddcaaGreatDiskAll
namespace Go.Cib
open Go Go.RowKit
theorem exec_alloc_frame {P : Program} {T : TypeId} (hT : FrameT P T) {a : Act} {w : World} {dst : Option Tmp} {ty : TypeId} {pos : String} {af : Array Edge} {gd : Option (Nat × Bool)} : (execOp a.eval ⟨dst, .alloc T, ty, pos, af, gd⟩).run P w = .ok (.value (.pointer (some ⟨w.heap.size, 0, none⟩))) (w.alloc (.cells (frameA FrameV.zero) T)) := by
  obtain ⟨i, h1, h2⟩ := hT.info
  generalize frameA FrameV.zero = z at *
  exact exec_alloc h1 h2 rfl
end Go.Cib
namespace Go.Proofs.YthbaipljlbddcaaGreat
open Go.RowKit Go.Cib
set_option maxRecDepth 20000 in
theorem cf_sector2 (args : Array Value) (w : World) : (callFunc 70 args).run Tryz.prog w = .ok (.enter 70 args) w := rfl
/-- The disk went on; else nothing of the log was touched. -/
theorem LogAt.disk {w w' : World} {g d L M V : Nat} {S : LogS} {D : DiskS} (h : LogAt w g d L M V S) (hD : DiskAt w' d L M D) (ht : Tch [d, L, M] w w') : LogAt w' g d L M V { S with disk := D } :=
  ⟨ht.heap h.hg (by simp; exact ⟨h.gd, h.gL, h.gM⟩), hD, h.hV.touch ht (by simp; exact ⟨h.dV.symm, h.LV.symm, h.MV.symm⟩), h.gd, h.gL, h.gM, h.gV, h.dV, h.LV, h.MV⟩
theorem LogAt.cell {w : World} {g d L M V : Nat} {S : LogS} (h : LogAt w g d L M V S) (j : Nat) {v : Value} (hv : (#[.pointer (some ⟨d, 0, none⟩), .int .i64 S.log, .int .i64 S.pages, .int .u64 S.gen, .int .i64 S.used, .int .u64 S.records, .map (some V), .bool S.dead] : Array Value)[j]? = some v) : w.cell? ⟨g, j, none⟩ = some v := by
  rw [cell_of_row w g j _ _ _ h.hg]; exact hv
theorem LogAt.froz {w : World} {g d L M V : Nat} {S : LogS} (h : LogAt w g d L M V S) (j : Nat) : w.frozen? ⟨g, j, none⟩ = false := frozen_of_row w g j _ _ h.hg
theorem convU32 (n : Nat) (h : n < 4294967296) : IntKind.u32.wrap (n : Int) = n := by
  simp [IntKind.wrap, IntKind.bits, IntKind.signed]; omega
/-- The log but for its map. -/
structure LogF (w : World) (g d L M : Nat) (ov : Option Nat) (S : LogS) : Prop where
  hg : w.heap[g]? = some (.cells #[.pointer (some ⟨d, 0, none⟩), .int .i64 S.log, .int .i64 S.pages, .int .u64 S.gen, .int .i64 S.used, .int .u64 S.records, .map ov, .bool S.dead] 91)
  hD : DiskAt w d L M S.disk
  gd : g ≠ d
  gL : g ≠ L
  gM : g ≠ M
theorem LogAt.f {w : World} {g d L M V : Nat} {S : LogS} (h : LogAt w g d L M V S) : LogF w g d L M (some V) S := ⟨h.hg, h.hD, h.gd, h.gL, h.gM⟩
theorem LogF.touch {w w' : World} {g d L M : Nat} {ov : Option Nat} {S : LogS} {X : List Nat} (h : LogF w g d L M ov S) (ht : Tch X w w') (h0 : g ∉ X) (h1 : d ∉ X) (h2 : L ∉ X) (h3 : M ∉ X) : LogF w' g d L M ov S :=
  ⟨ht.heap h.hg h0, h.hD.touch ht h1 h2 h3, h.gd, h.gL, h.gM⟩
theorem LogF.disk {w w' : World} {g d L M : Nat} {ov : Option Nat} {S : LogS} {D : DiskS} (h : LogF w g d L M ov S) (hD : DiskAt w' d L M D) (ht : Tch [d, L, M] w w') : LogF w' g d L M ov { S with disk := D } :=
  ⟨ht.heap h.hg (by simp; exact ⟨h.gd, h.gL, h.gM⟩), hD, h.gd, h.gL, h.gM⟩
theorem LogF.cell {w : World} {g d L M : Nat} {ov : Option Nat} {S : LogS} (h : LogF w g d L M ov S) (j : Nat) {v : Value} (hv : (#[.pointer (some ⟨d, 0, none⟩), .int .i64 S.log, .int .i64 S.pages, .int .u64 S.gen, .int .i64 S.used, .int .u64 S.records, .map ov, .bool S.dead] : Array Value)[j]? = some v) : w.cell? ⟨g, j, none⟩ = some v := by
  rw [cell_of_row w g j _ _ _ h.hg]; exact hv

set_option maxRecDepth 20000 in
set_option maxHeartbeats 400000 in
theorem home_f {w : World} {g d L M : Nat} {ov : Option Nat} {S : LogS} (h : LogF w g d L M ov S) (p : Nat) (x : Page) (hl : S.log ≤ 4000) (hp : p < 16384) (hg : S.gen < 18446744073709551616) :
    Calls Tryz.prog 44 #[.pointer (some ⟨g, 0, none⟩), .int .i64 p, .agg (secA x)] w fun e w' =>
      e = .returned (.int .i64 (S.disk.act (S.homeA p x)).1) ∧ LogF w' g d L M ov { S with disk := (S.disk.act (S.homeA p x)).2 } ∧ Tch [d, L, M] w w' := by
  obtain ⟨w1, hw1⟩ : ∃ w1, w.alloc (.cells (secA x) 64) = w1 := ⟨_, rfl⟩
  have hB : w1.heap[w.heap.size]? = some (.cells (secA x) 64) := by
    rw [← hw1, heap_alloc, if_pos rfl]
  have ht : Tch [] w w1 := by rw [← hw1]; exact (Tch.refl _ _).alloc _
  have HW1 := Lib.hid hw1
  have H1 := Lib.hid (h.touch ht (by simp) (by simp) (by simp) (by simp))
  have HT := Lib.hid ht
  have HB := Lib.hid hB
  clear hw1 ht hB h
  go_enter Tryz.func44, Tryz.ntmps44
  go_upto_region 1 with (((with_reducible refine wc_box_agg ?_ ?_); exact rfl; go_frame))
  rw [HW1.out]
  have C0 : Hid (∀ w', Tch [] w1 w' → w'.cell? ⟨g, 0, none⟩ = some (.pointer (some ⟨d, 0, none⟩))) := fun w' h => cell_old h (H1.out.cell 0 rfl)
  have C1 : Hid (∀ w', Tch [] w1 w' → w'.cell? ⟨g, 1, none⟩ = some (.int .i64 S.log)) := fun w' h => cell_old h (H1.out.cell 1 rfl)
  have C3 : Hid (∀ w', Tch [] w1 w' → w'.cell? ⟨g, 3, none⟩ = some (.int .u64 S.gen)) := fun w' h => cell_old h (H1.out.cell 3 rfl)
  have CB : Hid (∀ w', Tch [] w1 w' → w'.heap[w.heap.size]? = some (.cells (secA x) 64)) := fun w' h => h.heap HB.out (by simp)
  have hok : (S.homeF p x).Ok := ⟨hg, by show (0 : Nat) < _; omega, by show p < _; omega⟩
  have CS : Hid (∀ w', Tch [] w1 w' → Calls Tryz.prog 70 #[.agg (frameA (S.homeF p x))] w' fun e w'' => e = .returned (.agg (secA (S.homeF p x).sector)) ∧ Tch [] w1 w'') := fun w' h => (sector_any (S.homeF p x) hok w').mono (by rintro e w'' ⟨h1, h2⟩; exact ⟨h1, h.trans h2⟩)
  have FILL : Hid (fillF FrameV.zero [(0, .int .u8 5), (1, .int .u64 S.gen), (3, .int .u32 p), (4, .agg (secA x))] = some (frameA (S.homeF p x))) := by
    show fillF FrameV.zero [(0, .int .u8 (5 : UInt8).toNat), (1, .int .u64 S.gen), (3, .int .u32 p), (4, .agg (secA x))] = _
    rw [fillF_kind, fillF_gen, fillF_idx, fillF_page, fillF_nil]
    rfl
  have W1 : wrap64 (2 + S.log) = 2 + S.log := by unfold wrap64; omega
  have W2 : wrap64 (2 + S.log + p) = 2 + S.log + p := by unfold wrap64; omega
  have W3 := convU32 p (by omega)
  clear HW1 hl hp hg hok
  refine wp_region_walk (C := fun w' => Tch [] w1 w') 20 (by kernel_rfl) (by kernel_rfl) ((Tch.refl _ _).drew) ?_
  simp only [List.take_succ_cons, List.take_zero, List.drop_succ_cons, List.drop_zero]
  (repeat (first
      | ((with_reducible refine wq_load_cell (by kernel_rfl) C0.out ?_ ?_ ?_); exact rfl; exact rfl; go_frame)
      | ((with_reducible refine wq_load_cell (by kernel_rfl) C1.out ?_ ?_ ?_); exact rfl; exact rfl; go_frame)
      | ((with_reducible refine wq_load_cell (by kernel_rfl) C3.out ?_ ?_ ?_); exact rfl; exact rfl; go_frame)
      | ((with_reducible refine wq_load_var pageT CB.out ?_ ?_ ?_); exact rfl; exact rfl; go_frame)
      | ((with_reducible refine wq_build_fr FILL.out ?_ ?_ ?_); exact rfl; exact rfl; go_frame)
      | ((with_reducible refine wq_fn cf_sector2 ?_ ?_ CS.out ?_); exact rfl; exact rfl; go_frame)
      | go_big_quiet_skip | (go_big_quiet_want; go_big_quiet_op; first | go_big_quiet_on | (refine ⟨_, fun _ _ => rfl, ?_⟩; go_big_quiet_on))))
  refine wpQuiet_nil ?_
  intro w2 ht2
  have H2 := Lib.hid (H1.out.touch ht2 (by simp) (by simp) (by simp) (by simp))
  have T2 := Lib.hid (HT.out.trans ht2)
  clear ht2 C0 C1 C3 CB CS FILL
  go_wp2_with (go_at_call 41; refine (write_any H2.out.hD _ _).mono ?_; rintro e w' ⟨rfl, hq1, hq2⟩; have HQ1 := Lib.hid hq1; have HQ2 := Lib.hid hq2; clear hq1 hq2)
  go_ret
  have e : S.disk.act (S.homeA p x) = S.disk.write (2 + S.log + p) (S.homeF p x).sector := rfl
  rw [e]
  exact ⟨rfl, H2.out.disk HQ1.out HQ2.out, (T2.out.mono (by simp)).trans HQ2.out⟩

theorem step_guard {o : Oper} {ops : Array Oper} {tmps : Array Value} {gi d : Nat} {b : Bool} {A C : Prop} (hg : o.guard = some (gi, b)) (hd : (ops[gi]?).bind (·.dst) = some d) (hv : tmps[d]?.getD undef = .bool b) (h : A) :
    (Region.wanted o (yielded ops tmps) = true → A) ∧ (Region.wanted o (yielded ops tmps) = false → C) := by
  refine ⟨fun _ => h, fun hc => ?_⟩
  have e : tmps[d]? = some (.bool b) := by
    cases ht : tmps[d]? with
    | none => rw [ht] at hv; cases hv
    | some v => rw [ht] at hv; exact congrArg some hv
  have : Region.wanted o (yielded ops tmps) = true := by
    unfold Region.wanted
    rw [hg]
    simp only [yielded, hd, Option.bind_some, e]
    simp
  rw [this] at hc
  cases hc
theorem nums_two (w : World) (m n : Nat) : NumsAt (w.alloc (.cells #[.int .u32 m, .int .u32 n] 28)) (some ⟨w.heap.size, 0, none⟩) [m, n] := by
  intro j v hj
  refine ⟨w.heap.size, 0, rfl, ?_⟩
  rw [cell_of_row _ _ _ _ _ _ (heap_alloc_new w _)]
  match j, hj with
  | 0, hj => simp at hj; subst hj; rfl
  | 1, hj => simp at hj; subst hj; rfl
  | j + 2, hj => simp at hj
def KHead (w0 : World) (g : Nat) (S : LogS) : Nat → Value → World → Prop
  | 0, v, _ => v = .pointer (some ⟨g, 0, none⟩)
  | 1, v, _ => v = .pointer (some ⟨g, 0, none⟩)
  | 2, v, _ => v = .pointer (some ⟨g, 3, none⟩)
  | 3, v, _ => v = .int .u64 S.gen
  | 4, v, _ => v = .pointer (some ⟨g, 0, none⟩)
  | 5, v, _ => v = .pointer (some ⟨g, 0, none⟩)
  | 6, v, _ => v = .pointer (some ⟨g, 1, none⟩)
  | 7, v, _ => v = .int .i64 S.log
  | 8, v, _ => v = .int .u32 S.log
  | 9, v, _ => v = .pointer (some ⟨g, 0, none⟩)
  | 10, v, _ => v = .pointer (some ⟨g, 0, none⟩)
  | 11, v, _ => v = .pointer (some ⟨g, 2, none⟩)
  | 12, v, _ => v = .int .i64 S.pages
  | 13, v, _ => v = .int .u32 S.pages
  | 14, v, w => ∃ k, v = .slice (some ⟨k, 0, none⟩) 2 2 ∧ NumsAt w (some ⟨k, 0, none⟩) [S.log, S.pages]
  | 15, v, _ => v = .agg (secA (numsPage [S.log, S.pages]))
  | 16, v, _ => v = .agg (frameA S.headF)
  | _, v, w => ∃ F, v = .pointer (some ⟨F, 0, none⟩) ∧ w0.heap.size ≤ F ∧ w.heap[F]? = some (.cells (frameA FrameV.zero) 105)
theorem KHead.later {w0 : World} {g : Nat} {S : LogS} {j : Nat} {v : Value} {w w' : World} (h : KHead w0 g S j v w) (ht : Tch [] w w') : KHead w0 g S j v w' := by
  unfold KHead at h ⊢
  split at h <;> first | exact h | (obtain ⟨k, e, hk⟩ := h; exact ⟨k, e, hk.later ht⟩) | (obtain ⟨k, e, h1, hk⟩ := h; exact ⟨k, e, h1, ht.heap hk (by simp)⟩)

set_option maxRecDepth 20000 in
set_option maxHeartbeats 1000000 in
theorem head_f {w : World} {g d L M : Nat} {ov : Option Nat} {S : LogS} (h : LogF w g d L M ov S) (hl : S.log ≤ 4000) (hp : S.pages ≤ 16384) (hg : S.gen < 18446744073709551616) :
    Calls Tryz.prog 45 #[.pointer (some ⟨g, 0, none⟩)] w fun e w' =>
      e = .returned (.int .i64 (S.disk.acts S.headAs).1) ∧ LogF w' g d L M ov { S with disk := (S.disk.acts S.headAs).2 } ∧ Tch [d, L, M] w w' := by
  have c1 := h.cell 1 rfl
  have c2 := h.cell 2 rfl
  have c3 := h.cell 3 rfl
  have W3 := convU32 S.log (by omega)
  have W4 := convU32 S.pages (by omega)
  have H := Lib.hid h
  have hok : S.headF.Ok := ⟨hg, by show (0 : Nat) < _; omega, by show (0 : Nat) < _; omega⟩
  have OK := Lib.hid hok
  have FILL : Hid (fillF FrameV.zero [(0, .int .u8 1), (1, .int .u64 S.gen), (4, .agg (secA (numsPage [S.log, S.pages])))] = some (frameA S.headF)) := by
    show fillF FrameV.zero [(0, .int .u8 (1 : UInt8).toNat), (1, .int .u64 S.gen), (4, .agg (secA (numsPage [S.log, S.pages])))] = _
    rw [fillF_kind, fillF_gen, fillF_page, fillF_nil]
    rfl
  clear h hok
  go_enter Tryz.func45, Tryz.ntmps45
  go_upto_region 1 with fail
  refine wp_region_valt 18 (fun w' => Tch [] w w') (KHead w g S) (by kernel_rfl) (by kernel_rfl) (by kernel_rfl) ((Tch.refl _ _).drew) (fun w4 w5 _ _ ht i v hk => hk.later ht) ?_ ?_
  · intro i o hi ho fu w' hC hold hdep
    have c1' := cell_old hC c1
    have c2' := cell_old hC c2
    have c3' := cell_old hC c3
    have hi7 : i = 0 ∨ i = 1 ∨ i = 2 ∨ i = 3 ∨ i = 4 ∨ i = 5 ∨ i = 6 ∨ i = 7 ∨ i = 8 ∨ i = 9 ∨ i = 10 ∨ i = 11 ∨ i = 12 ∨ i = 13 ∨ i = 14 ∨ i = 15 ∨ i = 16 ∨ i = 17 := by omega
    rcases hi7 with rfl | rfl | rfl | rfl | rfl | rfl | rfl | rfl | rfl | rfl | rfl | rfl | rfl | rfl | rfl | rfl | rfl | rfl
    all_goals (simp only [List.getElem?_cons_zero, List.getElem?_cons_succ, Option.some.injEq] at ho; subst ho)
    · refine step_plain rfl ?_
      have x0 : fu.tmps[0]?.getD undef = .pointer (some ⟨g, 0, none⟩) := ev_tmp (hold 0 (by show _ < 43; omega) (by kernel_rfl))
      go_simp
      exact ⟨rfl, Tch.refl _ _⟩
    · refine step_plain rfl ?_
      have x5 : fu.tmps[5]?.getD undef = .pointer (some ⟨g, 0, none⟩) := ev_tmp (hdep 0 5 (by show _ < 43; omega) (by kernel_rfl) (by kernel_rfl))
      go_simp
      exact ⟨rfl, Tch.refl _ _⟩
    · refine step_plain rfl ?_
      have x6 : fu.tmps[6]?.getD undef = .pointer (some ⟨g, 0, none⟩) := ev_tmp (hdep 1 6 (by show _ < 43; omega) (by kernel_rfl) (by kernel_rfl))
      go_simp
      exact ⟨rfl, Tch.refl _ _⟩
    · refine step_plain rfl ?_
      have x7 : fu.tmps[7]?.getD undef = .pointer (some ⟨g, 3, none⟩) := ev_tmp (hdep 2 7 (by show _ < 43; omega) (by kernel_rfl) (by kernel_rfl))
      go_simp
      exact ⟨rfl, Tch.refl _ _⟩
    · refine step_plain rfl ?_
      have x0 : fu.tmps[0]?.getD undef = .pointer (some ⟨g, 0, none⟩) := ev_tmp (hold 0 (by show _ < 43; omega) (by kernel_rfl))
      go_simp
      exact ⟨rfl, Tch.refl _ _⟩
    · refine step_plain rfl ?_
      have x9 : fu.tmps[9]?.getD undef = .pointer (some ⟨g, 0, none⟩) := ev_tmp (hdep 4 9 (by show _ < 43; omega) (by kernel_rfl) (by kernel_rfl))
      go_simp
      exact ⟨rfl, Tch.refl _ _⟩
    · refine step_plain rfl ?_
      have x10 : fu.tmps[10]?.getD undef = .pointer (some ⟨g, 0, none⟩) := ev_tmp (hdep 5 10 (by show _ < 43; omega) (by kernel_rfl) (by kernel_rfl))
      go_simp
      exact ⟨rfl, Tch.refl _ _⟩
    · refine step_plain rfl ?_
      have x11 : fu.tmps[11]?.getD undef = .pointer (some ⟨g, 1, none⟩) := ev_tmp (hdep 6 11 (by show _ < 43; omega) (by kernel_rfl) (by kernel_rfl))
      go_simp
      exact ⟨rfl, Tch.refl _ _⟩
    · refine step_plain rfl ?_
      have x12 : fu.tmps[12]?.getD undef = .int .i64 S.log := ev_tmp (hdep 7 12 (by show _ < 43; omega) (by kernel_rfl) (by kernel_rfl))
      go_simp
      exact ⟨rfl, Tch.refl _ _⟩
    · refine step_plain rfl ?_
      have x0 : fu.tmps[0]?.getD undef = .pointer (some ⟨g, 0, none⟩) := ev_tmp (hold 0 (by show _ < 43; omega) (by kernel_rfl))
      go_simp
      exact ⟨rfl, Tch.refl _ _⟩
    · refine step_plain rfl ?_
      have x14 : fu.tmps[14]?.getD undef = .pointer (some ⟨g, 0, none⟩) := ev_tmp (hdep 9 14 (by show _ < 43; omega) (by kernel_rfl) (by kernel_rfl))
      go_simp
      exact ⟨rfl, Tch.refl _ _⟩
    · refine step_plain rfl ?_
      have x15 : fu.tmps[15]?.getD undef = .pointer (some ⟨g, 0, none⟩) := ev_tmp (hdep 10 15 (by show _ < 43; omega) (by kernel_rfl) (by kernel_rfl))
      go_simp
      exact ⟨rfl, Tch.refl _ _⟩
    · refine step_plain rfl ?_
      have x16 : fu.tmps[16]?.getD undef = .pointer (some ⟨g, 2, none⟩) := ev_tmp (hdep 11 16 (by show _ < 43; omega) (by kernel_rfl) (by kernel_rfl))
      go_simp
      exact ⟨rfl, Tch.refl _ _⟩
    · refine step_plain rfl ?_
      have x17 : fu.tmps[17]?.getD undef = .int .i64 S.pages := ev_tmp (hdep 12 17 (by show _ < 43; omega) (by kernel_rfl) (by kernel_rfl))
      go_simp
      exact ⟨rfl, Tch.refl _ _⟩
    · refine step_plain rfl ?_
      have x13 : fu.tmps[13]?.getD undef = .int .u32 S.log := ev_tmp (hdep 8 13 (by show _ < 43; omega) (by kernel_rfl) (by kernel_rfl))
      have x18 : fu.tmps[18]?.getD undef = .int .u32 S.pages := ev_tmp (hdep 13 18 (by show _ < 43; omega) (by kernel_rfl) (by kernel_rfl))
      go_simp
      exact ⟨⟨_, rfl, nums_two _ _ _⟩, hC.alloc _, (Tch.refl _ _).alloc _⟩
    · refine step_plain rfl ?_
      have x19 := hdep 14 19 (by show _ < 43; omega) (by kernel_rfl) (by kernel_rfl)
      obtain ⟨k, e19, h19⟩ := x19
      have x19 := ev_tmp e19
      have HN := Lib.hid (numbers_any (cap := 2) h19 (by simp) (by simp; omega))
      clear h19
      go_simp
      refine HN.out.mono ?_
      rintro e w5 ⟨rfl, q2⟩
      exact ⟨_, rfl, rfl, hC.trans q2, q2⟩
    · refine step_plain rfl ?_
      have x20 : fu.tmps[20]?.getD undef = .agg (secA (numsPage [S.log, S.pages])) := ev_tmp (hdep 15 20 (by show _ < 43; omega) (by kernel_rfl) (by kernel_rfl))
      have x8 : fu.tmps[8]?.getD undef = .int .u64 S.gen := ev_tmp (hdep 3 8 (by show _ < 43; omega) (by kernel_rfl) (by kernel_rfl))
      exact stpR_ok (exec_build_fr FILL.out (by simp [Act.eval, x8, x20])) ⟨rfl, hC, Tch.refl _ _⟩
    · refine step_plain rfl ?_
      exact stpR_ok (exec_alloc_frame frameTT) ⟨⟨_, rfl, hC.size, heap_alloc_new _ _⟩, hC.alloc _, (Tch.refl _ _).alloc _⟩
  · intro vs w2 hC hK
    have h16 : vs 16 = .agg (frameA S.headF) := hK 16 (by omega)
    obtain ⟨F, h17, hF, hb⟩ := hK 17 (by omega)
    have H16 := Lib.hid h16
    have H17 := Lib.hid h17
    have H2 := Lib.hid (H.out.touch hC (by simp) (by simp) (by simp) (by simp))
    have T2 := Lib.hid hC
    have B2 := Lib.hid hb
    clear hK hC h16 h17 hb c1 c2 c3
    unfold fullOf
    rw [show (List.range 18).map vs = [vs 0, vs 1, vs 2, vs 3, vs 4, vs 5, vs 6, vs 7, vs 8, vs 9, vs 10, vs 11, vs 12, vs 13, vs 14, vs 15, vs 16, vs 17] from rfl, H16.out, H17.out]
    generalize vs 0 = v0
    generalize vs 1 = v1
    generalize vs 2 = v2
    generalize vs 3 = v3
    generalize vs 4 = v4
    generalize vs 5 = v5
    generalize vs 6 = v6
    generalize vs 7 = v7
    generalize vs 8 = v8
    generalize vs 9 = v9
    generalize vs 10 = v10
    generalize vs 11 = v11
    generalize vs 12 = v12
    generalize vs 13 = v13
    generalize vs 14 = v14
    generalize vs 15 = v15
    clear H16 H17 vs
    simp only [List.take_succ_cons, List.take_zero, List.drop_succ_cons, List.drop_zero, putAll]
    go_frame
    go_upto_region 2 with ((with_reducible apply wc_store_frame frameTT B2.out (g := S.headF)); exact rfl; exact rfl; go_frame)
    have ht3 : Tch [F] w2 (w2.setRow F (frameA S.headF)) := (Tch.refl _ _).setRow (.inl (by simp)) _
    have hgF : g ≠ F := by have := lt_of_heap H.out.hg; omega
    have hdF : d ≠ F := by have := lt_of_heap H.out.hD.hd; omega
    have hLF : L ≠ F := by have := lt_of_heap H.out.hD.hL; omega
    have hMF : M ≠ F := by have := H.out.hD.hM.lt; omega
    have H3 := Lib.hid (H2.out.touch ht3 (by simpa using hgF) (by simpa using hdF) (by simpa using hLF) (by simpa using hMF))
    have B3 := Lib.hid (setRow_heap w2 F _ (frameA S.headF) _ _ B2.out)
    have T3 := Lib.hid (tch_own T2.out ht3 (by simpa using hF))
    clear ht3 hgF hdF hLF hMF H2 B2 T2
    generalize w2.setRow F (frameA S.headF) = w3 at *
    have C0 : Hid (∀ w', Tch [] w3 w' → w'.cell? ⟨g, 0, none⟩ = some (.pointer (some ⟨d, 0, none⟩))) := fun w' h => cell_old h (H3.out.cell 0 rfl)
    have C3 : Hid (∀ w', Tch [] w3 w' → w'.cell? ⟨g, 3, none⟩ = some (.int .u64 S.gen)) := fun w' h => cell_old h (H3.out.cell 3 rfl)
    have CB : Hid (∀ w', Tch [] w3 w' → w'.heap[F]? = some (.cells (frameA S.headF) 105)) := fun w' h => h.heap B3.out (by simp)
    have CS : Hid (∀ w', Tch [] w3 w' → Calls Tryz.prog 70 #[.agg (frameA S.headF)] w' fun e w'' => e = .returned (.agg (secA S.headF.sector)) ∧ Tch [] w3 w'') := fun w' h => (sector_any S.headF OK.out w').mono (by rintro e w'' ⟨h1, h2⟩; exact ⟨h1, h.trans h2⟩)
    obtain ⟨gm, hgm⟩ : ∃ gm, S.gen % 2 = gm := ⟨_, rfl⟩
    have hgm2 : gm < 2 := by omega
    have e1 : (S.gen : Int).tmod 2 = gm := by rw [Int.tmod_eq_emod_of_nonneg (by omega)]; omega
    have HGM := Lib.hid hgm
    clear hgm
    refine wp_region_walk (C := fun w' => Tch [] w3 w') 12 (by kernel_rfl) (by kernel_rfl) ((Tch.refl _ _).drew) ?_
    simp only [List.take_succ_cons, List.take_zero, List.drop_succ_cons, List.drop_zero]
    (repeat (first
        | ((with_reducible refine wq_load_cell (by kernel_rfl) C0.out ?_ ?_ ?_); exact rfl; exact rfl; go_frame)
        | ((with_reducible refine wq_load_cell (by kernel_rfl) C3.out ?_ ?_ ?_); exact rfl; exact rfl; go_frame)
        | ((with_reducible refine wq_load_frame frameTT CB.out ?_ ?_ ?_); exact rfl; exact rfl; go_frame)
        | ((with_reducible refine wq_fn cf_sector2 ?_ ?_ CS.out ?_); exact rfl; exact rfl; go_frame)
        | go_big_quiet_skip | (go_big_quiet_want; go_big_quiet_op; first | go_big_quiet_on | (refine ⟨_, fun _ _ => rfl, ?_⟩; go_big_quiet_on))))
    refine wpQuiet_nil ?_
    intro w4 ht4
    have H4 := Lib.hid (H3.out.touch ht4 (by simp) (by simp) (by simp) (by simp))
    have T4 := Lib.hid (T3.out.trans ht4)
    clear ht4 C0 C3 CB CS H3 T3 B3
    have hE : S.disk.acts S.headAs = if (S.disk.write (gm : Int) S.headF.sector).1 = 0 then (S.disk.write (gm : Int) S.headF.sector).2.flush else S.disk.write (gm : Int) S.headF.sector := by
      unfold LogS.headAs
      rw [DiskS.acts_cons, DiskS.acts_one, HGM.out]
      rfl
    have HE := Lib.hid hE
    clear hE
    by_cases hz : (S.disk.write (gm : Int) S.headF.sector).1 = 0
    · have hz' : ((S.disk.write (gm : Int) S.headF.sector).1 != 0) = false := by simp [hz]
      rw [if_pos hz] at HE
      go_wp2_with (first | (go_at_call 41; refine (write_any H4.out.hD _ _).mono ?_; rintro e w' ⟨rfl, hq1, hq2⟩; have H5 := Lib.hid (H4.out.disk hq1 hq2); have c0 := (H4.out.disk hq1 hq2).cell 0 rfl; have T5 := Lib.hid ((T4.out.mono (by simp)).trans hq2); clear hq1 hq2 H4) | (go_at_call 42; refine (flush_any H5.out.hD).mono ?_; rintro e w' ⟨rfl, hq1, hq2⟩; have H6 := Lib.hid (H5.out.disk hq1 hq2); have T6 := Lib.hid (T5.out.trans hq2); clear hq1 hq2 H5))
      go_ret
      rw [HE.out]
      exact ⟨rfl, H6.out, T6.out⟩
    · have hz' : ((S.disk.write (gm : Int) S.headF.sector).1 != 0) = true := by simp [hz]
      rw [if_neg hz] at HE
      go_wp2_with (first | (go_at_call 41; refine (write_any H4.out.hD _ _).mono ?_; rintro e w' ⟨rfl, hq1, hq2⟩; have H5 := Lib.hid (H4.out.disk hq1 hq2); have T5 := Lib.hid ((T4.out.mono (by simp)).trans hq2); clear hq1 hq2 H4))
      go_ret
      rw [HE.out]
      exact ⟨rfl, H5.out, T5.out⟩
theorem home_any {w : World} {g d L M V : Nat} {S : LogS} (h : LogAt w g d L M V S) (p : Nat) (x : Page) (hl : S.log ≤ 4000) (hp : p < 16384) (hg : S.gen < 18446744073709551616) :
    Calls Tryz.prog 44 #[.pointer (some ⟨g, 0, none⟩), .int .i64 p, .agg (secA x)] w fun e w' =>
      e = .returned (.int .i64 (S.disk.act (S.homeA p x)).1) ∧ LogAt w' g d L M V { S with disk := (S.disk.act (S.homeA p x)).2 } ∧ Tch [d, L, M] w w' :=
  (home_f h.f p x hl hp hg).mono (by rintro e w' ⟨h1, h2, h3⟩; exact ⟨h1, h.disk h2.hD h3, h3⟩)
theorem head_any {w : World} {g d L M V : Nat} {S : LogS} (h : LogAt w g d L M V S) (hl : S.log ≤ 4000) (hp : S.pages ≤ 16384) (hg : S.gen < 18446744073709551616) :
    Calls Tryz.prog 45 #[.pointer (some ⟨g, 0, none⟩)] w fun e w' =>
      e = .returned (.int .i64 (S.disk.acts S.headAs).1) ∧ LogAt w' g d L M V { S with disk := (S.disk.acts S.headAs).2 } ∧ Tch [d, L, M] w w' :=
  (head_f h.f hl hp hg).mono (by rintro e w' ⟨h1, h2, h3⟩; exact ⟨h1, h.disk h2.hD h3, h3⟩)
end Go.Proofs.YthbaipljlbddcaaGreat
