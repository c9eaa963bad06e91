/-
  A record is written: the steps of package wal's write.
-/
import Derived.Test.YthbaipljlbddcaaGreatLogI
namespace Go.Proofs.YthbaipljlbddcaaGreat
open Go.RowKit Go.Cib
abbrev fnPut (Bl Bp : Nat) : Value := .func (.func 75) #[] #[.pointer (some ⟨Bl, 0, none⟩), .pointer (some ⟨Bp, 0, none⟩)]
/-- What the steps of a record find in memory. -/
structure PutAt (w : World) (g d L M V Bl Bp Bf pl : Nat) (S : LogS) : Prop where
  at_ : LogAt w g d L M V S
  cl : w.cell? ⟨Bl, 0, none⟩ = some (.pointer (some ⟨g, 0, none⟩))
  cp : w.heap[Bp]? = some (.cells #[.int .i64 pl] 3)
  cf : w.cell? ⟨Bf, 0, none⟩ = some (fnPut Bl Bp)
  hBp : Bp ∉ [g, d, L, M, V, Bl]
  hpl : pl ≤ 100000
  gen : S.gen < 18446744073709551616
  rec_ : S.records < 18446744073709551616
theorem PutAt.touch {w w' : World} {g d L M V Bl Bp Bf pl : Nat} {S : LogS} (h : PutAt w g d L M V Bl Bp Bf pl S) (ht : Tch [] w w') : PutAt w' g d L M V Bl Bp Bf pl S :=
  ⟨h.at_.touch ht (by simp) (by simp) (by simp) (by simp) (by simp), cell_old ht h.cl, ht.heap h.cp (by simp), cell_old ht h.cf, h.hBp, h.hpl, h.gen, h.rec_⟩
theorem PutAt.put {w : World} {g d L M V Bl Bp Bf pl : Nat} {S : LogS} (h : PutAt w g d L M V Bl Bp Bf pl S) (f : FrameV) (hf : f.Ok) {w0 : World} (h0 : Tch [] w0 w) :
    Calls Tryz.prog 75 #[.agg (frameA f), .pointer (some ⟨Bl, 0, none⟩), .pointer (some ⟨Bp, 0, none⟩)] w fun e w' =>
      e = .returned (.int .i64 (LogS.putStep f (S, pl)).1) ∧ LogAt w' g d L M V (LogS.putStep f (S, pl)).2.1 ∧ w'.heap[Bp]? = some (.cells #[.int .i64 (pl + 1 : Nat)] 3) ∧ Tch [Bp, d, L, M] w0 w' :=
  (put_any h.at_ h.cl h.cp h.hBp h.hpl h.gen h.rec_ f hf).mono (by rintro e w' ⟨q1, q2, q3, q4⟩; exact ⟨q1, q2, q3, (h0.mono (by simp)).trans q4⟩)

set_option maxRecDepth 20000 in
theorem cf_numbers (args : Array Value) (w : World) : (callFunc 71 args).run Tryz.prog w = .ok (.enter 71 args) w := rfl
set_option maxRecDepth 20000 in
set_option maxHeartbeats 1000000 in
theorem wr2_any {w : World} {g d L M V Bl Bp Bf Bw Bn pl : Nat} {S : LogS} (h : PutAt w g d L M V Bl Bp Bf pl S) {ia na : Option Addr} {icap ncap : Nat} {names : List Nat} (cw : w.cell? ⟨Bw, 0, none⟩ = some (.slice ia names.length icap)) (cn : w.cell? ⟨Bn, 0, none⟩ = some (.slice na names.length ncap))
    (hN : NumsAt w na names) (hl : names.length ≤ 1000) (hn : ∀ n ∈ names, n < 4294967296) :
    Calls Tryz.prog 76 #[.pointer (some ⟨Bf, 0, none⟩), .pointer (some ⟨Bw, 0, none⟩), .pointer (some ⟨Bn, 0, none⟩)] w fun e w' =>
      e = .returned (.int .i64 (LogS.putStep (LogS.frame2 names) (S, pl)).1) ∧ LogAt w' g d L M V (LogS.putStep (LogS.frame2 names) (S, pl)).2.1 ∧ w'.heap[Bp]? = some (.cells #[.int .i64 (pl + 1 : Nat)] 3) ∧ Tch [Bp, d, L, M] w w' := by
  have H := Lib.hid h
  have CF : Hid (∀ w', Tch [] w w' → w'.cell? ⟨Bf, 0, none⟩ = some (fnPut Bl Bp)) := fun w' ht => cell_old ht h.cf
  have CW : Hid (∀ w', Tch [] w w' → w'.cell? ⟨Bw, 0, none⟩ = some (.slice ia names.length icap)) := fun w' ht => cell_old ht cw
  have CN : Hid (∀ w', Tch [] w w' → w'.cell? ⟨Bn, 0, none⟩ = some (.slice na names.length ncap)) := fun w' ht => cell_old ht cn
  have CS : Hid (∀ w', Tch [] w w' → Calls Tryz.prog 71 #[.slice na names.length ncap] w' fun e w'' => e = .returned (.agg (secA (numsPage names))) ∧ Tch [] w w'') := fun w' ht => (numbers_any (cap := ncap) (hN.later ht) hl hn).mono (by rintro e w'' ⟨h1, h2⟩; exact ⟨h1, ht.trans h2⟩)
  have W3 := convU32 names.length (by omega)
  have hok : (LogS.frame2 names).Ok := ⟨by show (0 : Nat) < _; omega, by show (0 : Nat) < _; omega, by show names.length < _; omega⟩
  have OK := Lib.hid hok
  have FILL : Hid (fillF FrameV.zero [(0, .int .u8 2), (3, .int .u32 names.length), (4, .agg (secA (numsPage names)))] = some (frameA (LogS.frame2 names))) := by
    show fillF FrameV.zero [(0, .int .u8 (2 : UInt8).toNat), (3, .int .u32 names.length), (4, .agg (secA (numsPage names)))] = _
    rw [fillF_kind, fillF_idx, fillF_page, fillF_nil]
    rfl
  clear h cw cn hN hn hok
  go_enter Tryz.func76, Tryz.ntmps76
  go_upto_region 1 with fail
  refine wp_region_walk (C := fun w' => Tch [] w w') 7 (by kernel_rfl) (by kernel_rfl) ((Tch.refl _ _).drew) ?_
  simp only [List.take_succ_cons, List.take_zero, List.drop_succ_cons, List.drop_zero]
  (repeat (first
      | ((with_reducible refine wq_load_cell (by kernel_rfl) CF.out ?_ ?_ ?_); exact rfl; exact rfl; go_frame)
      | ((with_reducible refine wq_load_cell (by kernel_rfl) CW.out ?_ ?_ ?_); exact rfl; exact rfl; go_frame)
      | ((with_reducible refine wq_load_cell (by kernel_rfl) CN.out ?_ ?_ ?_); exact rfl; exact rfl; go_frame)
      | ((with_reducible refine wq_build_fr FILL.out ?_ ?_ ?_); exact rfl; exact rfl; go_frame)
      | ((with_reducible refine wq_fn cf_numbers ?_ ?_ CS.out ?_); exact rfl; exact rfl; go_frame)
      | go_big_quiet_skip | (go_big_quiet_want; go_big_quiet_op; first | go_big_quiet_on | (refine ⟨_, fun _ _ => rfl, ?_⟩; go_big_quiet_on))))
  refine wpQuiet_nil ?_
  intro w2 ht2
  have CP := Lib.hid ((H.out.touch ht2).put (LogS.frame2 names) OK.out ht2)
  clear ht2 CF CW CN CS FILL
  go_wp2_with (go_at_call 75; refine CP.out.mono ?_; rintro e w' ⟨rfl, hq1, hq2, hq3⟩; have Q1 := Lib.hid hq1; have Q2 := Lib.hid hq2; have Q3 := Lib.hid hq3; clear hq1 hq2 hq3)
  go_ret
  exact ⟨rfl, Q1.out, Q2.out, Q3.out⟩

set_option maxRecDepth 20000 in
set_option maxHeartbeats 1000000 in
theorem wr3_any {w : World} {g d L M V Bl Bp Bf Bk Bx pl k : Nat} {S : LogS} (h : PutAt w g d L M V Bl Bp Bf pl S) (ck : w.cell? ⟨Bk, 0, none⟩ = some (.int .i64 k)) {n : Int} {x : Page} (cx : w.heap[Bx]? = some (.cells (imageA n x) 68)) (hk : k ≤ 1000) :
    Calls Tryz.prog 77 #[.pointer (some ⟨Bf, 0, none⟩), .pointer (some ⟨Bk, 0, none⟩), .pointer (some ⟨Bx, 0, none⟩)] w fun e w' =>
      e = .returned (.int .i64 (LogS.putStep (LogS.frame3 k x) (S, pl)).1) ∧ LogAt w' g d L M V (LogS.putStep (LogS.frame3 k x) (S, pl)).2.1 ∧ w'.heap[Bp]? = some (.cells #[.int .i64 (pl + 1 : Nat)] 3) ∧ Tch [Bp, d, L, M] w w' := by
  have cf := h.cf
  have W3 := convU32 k (by omega)
  have hok : (LogS.frame3 k x).Ok := ⟨by show (0 : Nat) < _; omega, by show (0 : Nat) < _; omega, by show k < _; omega⟩
  have CP := Lib.hid (h.put (LogS.frame3 k x) hok (Tch.refl _ _))
  have CX := Lib.hid cx
  have FILL : Hid (fillF FrameV.zero [(0, .int .u8 3), (3, .int .u32 k), (4, .agg (secA x))] = some (frameA (LogS.frame3 k x))) := by
    show fillF FrameV.zero [(0, .int .u8 (3 : UInt8).toNat), (3, .int .u32 k), (4, .agg (secA x))] = _
    rw [fillF_kind, fillF_idx, fillF_page, fillF_nil]
    rfl
  clear h cx hok
  go_enter Tryz.func77, Tryz.ntmps77
  go_wp2_with (first | ((with_reducible apply wc_load_imgpage pageT.agg CX.out); exact rfl; go_frame) | ((with_reducible refine wc_build_fr FILL.out ?_ ?_); exact rfl; go_frame) | (go_at_call 75; refine CP.out.mono ?_; rintro e w' ⟨rfl, hq1, hq2, hq3⟩; have Q1 := Lib.hid hq1; have Q2 := Lib.hid hq2; have Q3 := Lib.hid hq3; clear hq1 hq2 hq3))
  go_ret
  exact ⟨rfl, Q1.out, Q2.out, Q3.out⟩

set_option maxRecDepth 20000 in
set_option maxHeartbeats 1000000 in
theorem wr4_any {w : World} {g d L M V Bl Bp Bf Bw pl n : Nat} {S : LogS} (h : PutAt w g d L M V Bl Bp Bf pl S) {ia : Option Addr} {icap : Nat} (cw : w.cell? ⟨Bw, 0, none⟩ = some (.slice ia n icap)) (hn : n ≤ 1000) :
    Calls Tryz.prog 78 #[.pointer (some ⟨Bf, 0, none⟩), .pointer (some ⟨Bw, 0, none⟩)] w fun e w' =>
      e = .returned (.int .i64 (LogS.putStep (LogS.frame4 n) (S, pl)).1) ∧ LogAt w' g d L M V (LogS.putStep (LogS.frame4 n) (S, pl)).2.1 ∧ w'.heap[Bp]? = some (.cells #[.int .i64 (pl + 1 : Nat)] 3) ∧ Tch [Bp, d, L, M] w w' := by
  have cf := h.cf
  have W3 := convU32 n (by omega)
  have hok : (LogS.frame4 n).Ok := ⟨by show (0 : Nat) < _; omega, by show (0 : Nat) < _; omega, by show n < _; omega⟩
  have CP := Lib.hid (h.put (LogS.frame4 n) hok (Tch.refl _ _))
  have FILL : Hid (fillF FrameV.zero [(0, .int .u8 4), (3, .int .u32 n)] = some (frameA (LogS.frame4 n))) := by
    show fillF FrameV.zero [(0, .int .u8 (4 : UInt8).toNat), (3, .int .u32 n)] = _
    rw [fillF_kind, fillF_idx, fillF_nil]
    rfl
  clear h hok
  go_enter Tryz.func78, Tryz.ntmps78
  go_wp2_with (first | ((with_reducible refine wc_build_fr FILL.out ?_ ?_); exact rfl; go_frame) | (go_at_call 75; refine CP.out.mono ?_; rintro e w' ⟨rfl, hq1, hq2, hq3⟩; have Q1 := Lib.hid hq1; have Q2 := Lib.hid hq2; have Q3 := Lib.hid hq3; clear hq1 hq2 hq3))
  go_ret
  exact ⟨rfl, Q1.out, Q2.out, Q3.out⟩
end Go.Proofs.YthbaipljlbddcaaGreat
