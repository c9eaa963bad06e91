/-
  One op of a script, done to a disk: 'acts'.
-/
import Derived.Test.YtpfgjopiddopbaaRef5
import Derived.Test.YtpfgjopiddopbaaRegion2
namespace Go.Proofs.Ytpfgjopiddopbaa
open Go.RowKit Go.Cib

/-- What holds of an op that was there from the start. -/
structure OpOk (w0 : World) (o : OpV) : Prop where
  keep : IntsAt w0 o.ka o.keep
  txt : o.text.size ≤ 9223372036854775807
  len : o.keep.length ≤ 9223372036854775807
  lo : -9223372036854775808 ≤ o.i
  hi : o.i ≤ 9223372036854775807
theorem OpAt.ok {w : World} {b off : Nat} {o : OpV} (h : OpAt w b off o) : OpOk w o := ⟨h.keep, h.txt, h.len, h.lo, h.hi⟩
def OpV.val (o : OpV) : Value := .agg #[.int .i64 o.what, .int .i64 o.i, .string o.text, .slice o.ka o.keep.length o.kcap]
def OpV.sec (o : OpV) : Sec := Arr.text o.text.data.toList
def OpV.cells (o : OpV) : Obj := .cells #[.int .i64 o.what, .int .i64 o.i, .string o.text, .slice o.ka o.keep.length o.kcap] 30

theorem ints_old {w0 : World} {a : Option Addr} {l : List Int} (h : IntsAt w0 a l) {k : Nat} (hk : w0.heap.size ≤ k) : ∀ x, l ≠ [] → a = some x → x.block ≠ k := by
  intro x hl ha
  cases l with
  | nil => exact absurd rfl hl
  | cons y ys =>
    obtain ⟨b, o, e, hc⟩ := h 0 y rfl
    rw [ha] at e
    have := block_lt_of_cell hc
    injection e with e
    rw [e]
    simp only at this ⊢
    omega

theorem OpOk.later {w w' : World} {o : OpV} (h : OpOk w o) (ht : Tch [] w w') : OpOk w' o := ⟨h.keep.touch ht (by simp), h.txt, h.len, h.lo, h.hi⟩
theorem OpOk.off {w0 : World} {o : OpV} (h : OpOk w0 o) {d L M : Nat} (h1 : w0.heap.size ≤ d) (h2 : w0.heap.size ≤ L) (h3 : w0.heap.size ≤ M) : ∀ x, o.keep ≠ [] → o.ka = some x → x.block ≠ d ∧ x.block ≠ L ∧ x.block ≠ M :=
  fun x e1 e2 => ⟨ints_old h.keep h1 x e1 e2, ints_old h.keep h2 x e1 e2, ints_old h.keep h3 x e1 e2⟩

/-- The call's own blocks: S, which things own; and variables B. -/
structure Boxes (w0 w : World) (S : List Nat) (B : List (Nat × Obj)) : Prop where
  tch : Tch [] w0 w
  own : ∀ k ∈ S, w0.heap.size ≤ k ∧ k < w.heap.size
  box : ∀ x ∈ B, w.heap[x.1]? = some x.2 ∧ x.1 ∉ S ∧ w0.heap.size ≤ x.1
theorem Boxes.step {w0 w w' : World} {S S' : List Nat} {B : List (Nat × Obj)} (h : Boxes w0 w S B) (ht : Tch S' w w') (hs : ∀ k ∈ S', k ∈ S) : Boxes w0 w' S B :=
  ⟨tch_own h.tch ht (fun k hk => (h.own k (hs k hk)).1), fun k hk => ⟨(h.own k hk).1, Nat.lt_of_lt_of_le (h.own k hk).2 ht.size⟩, fun x hx => by
    obtain ⟨h1, h2, h3⟩ := h.box x hx
    exact ⟨ht.heap h1 (fun hm => h2 (hs _ hm)), h2, h3⟩⟩
theorem Boxes.same {w0 w w' : World} {S : List Nat} {B : List (Nat × Obj)} (h : Boxes w0 w S B) (ht : Tch [] w w') : Boxes w0 w' S B := h.step ht (by simp)
theorem Boxes.put {w0 w : World} {S : List Nat} {B : List (Nat × Obj)} (h : Boxes w0 w S B) (o : Obj) : Boxes w0 (w.alloc o) S ((w.heap.size, o) :: B) := by
  have h' := h.same ((Tch.refl [] w).alloc o)
  refine ⟨h'.tch, h'.own, fun x hx => ?_⟩
  rcases List.mem_cons.1 hx with rfl | hx
  · exact ⟨heap_alloc_new _ _, fun hm => Nat.lt_irrefl _ (h.own _ hm).2, h.tch.size⟩
  · exact h'.box x hx
theorem Boxes.drop {w0 w : World} {S : List Nat} {B B' : List (Nat × Obj)} (h : Boxes w0 w S B) (hb : ∀ x ∈ B', x ∈ B) : Boxes w0 w S B' := ⟨h.tch, h.own, fun x hx => h.box x (hb x hx)⟩
theorem Boxes.got {w0 w : World} {S : List Nat} {B : List (Nat × Obj)} (h : Boxes w0 w S B) {b : Nat} {o : Obj} (hb : (b, o) ∈ B) : w.heap[b]? = some o := (h.box _ hb).1

/-- What an op does to a disk. -/
def act (D : DiskS) (o : OpV) : DiskS :=
  if o.what = 1 then (D.write o.i o.sec).2 else if o.what = 2 then D.flush.2 else if o.what = 4 then (D.arm o.i).2 else if o.what = 5 then D.off else if o.what = 6 then (D.on o.keep).2 else D

set_option maxRecDepth 20000 in
set_option maxHeartbeats 2000000 in
theorem acts_any {w : World} {d L M : Nat} {D : DiskS} (h : DiskAt w d L M D) (o : OpV) (ho : OpOk w o) (hap : ∀ x, o.keep ≠ [] → o.ka = some x → x.block ≠ d ∧ x.block ≠ L ∧ x.block ≠ M) :
    Calls Try.prog 22 #[.pointer (some ⟨d, 0, none⟩), o.val] w fun e w' => e = .returned (.tuple #[]) ∧ DiskAt w' d L M (act D o) ∧ Tch [d, L, M] w w' := by
  have HO := Lib.hid ho
  have tx : Tch [] w (w.alloc (.cells #[.int .i64 o.what, .int .i64 o.i, .string o.text, .slice o.ka o.keep.length o.kcap] 30)) := (Tch.refl [] w).alloc _
  have hk1 := h.touch tx (by simp) (by simp) (by simp)
  have HK := Lib.hid hk1
  have TX := Lib.hid tx
  have HAP := Lib.hid hap
  clear ho hk1 tx hap h
  unfold OpV.val
  cases hw1 : (o.what == 1) with
  | true =>
    have e1 : act D o = (D.write o.i o.sec).2 := by unfold act; rw [if_pos (by simpa using hw1)]
    have E1 := Lib.hid e1
    clear e1
    go_enter Try.func22, Try.ntmps22
    go_wp2_with fail
    have cX1 : (w.alloc (.cells #[.int .i64 o.what, .int .i64 o.i, .string o.text, .slice o.ka o.keep.length o.kcap] 30)).cell? ⟨w.heap.size, 1, none⟩ = some (.int .i64 o.i) := by simp
    have cX2 : (w.alloc (.cells #[.int .i64 o.what, .int .i64 o.i, .string o.text, .slice o.ka o.keep.length o.kcap] 30)).cell? ⟨w.heap.size, 2, none⟩ = some (.string o.text) := by simp
    generalize w.alloc (.cells #[.int .i64 o.what, .int .i64 o.i, .string o.text, .slice o.ka o.keep.length o.kcap] 30) = wX at *
    generalize w.heap.size = X at *
    refine wp_region_inv 6 [.pointer (some ⟨d, 0, none⟩), .pointer (some ⟨X, 1, none⟩), .int .i64 o.i, .pointer (some ⟨X, 2, none⟩), .string o.text, .agg (secA o.sec)] _
      (fun w' => (DiskAt w' d L M D ∧ Tch [] w w') ∧ w'.cell? ⟨X, 1, none⟩ = some (.int .i64 o.i) ∧ w'.cell? ⟨X, 2, none⟩ = some (.string o.text)) (by kernel_rfl) (by kernel_rfl) rfl
      (by simp only [putAll, List.take_succ_cons, List.take_zero]; go_frame; exact rfl) ⟨⟨HK.out.touch (Tch.refl [] _).drew (by simp) (by simp) (by simp), TX.out.drew⟩, cX1, cX2⟩ ?_ ?_
    · simp only [List.take_succ_cons, List.take_zero]
      refine stepsOk_cons (stepOk_value rfl fun W hW => ?_) (stepsOk_cons (stepOk_value rfl fun W hW => ?_) (stepsOk_cons (stepOk_value rfl fun W hW => ?_) (stepsOk_cons (stepOk_value rfl fun W hW => ?_) (stepsOk_cons (stepOk_value rfl fun W hW => ?_) (stepsOk_cons (stepOk_call (f := 13) (args := #[.string o.text]) rfl (fun W => ?_) (fun W hW => ?_)) stepsOk_nil)))))
      all_goals first | (obtain ⟨hW1, hW2, hW3⟩ := hW; clear hW1; go_simp; done) | go_simp | skip
      · refine (text_any _ _ HO.out.txt).mono ?_
        rintro e w' ⟨rfl, ht⟩
        exact ⟨rfl, ⟨hW.1.1.touch ht (by simp) (by simp) (by simp), hW.1.2.trans ht⟩, cell_old ht hW.2.1, cell_old ht hW.2.2⟩
    · intro wY hY
      have HY := Lib.hid hY.1.1
      have TY := Lib.hid hY.1.2
      clear hY cX1 cX2
      simp only [List.drop_succ_cons, List.drop_zero]
      go_wp2_with (go_at_call 12; refine (write_any HY.out o.i o.sec).mono ?_; rintro e w' ⟨rfl, hq1, hq2⟩; have HQ := Lib.hid hq1; have HT := Lib.hid ((TY.out.mono (by simp)).trans hq2); clear hq1 hq2)
      go_end0
      rw [E1.out]
      exact ⟨rfl, HQ.out, HT.out⟩
  | false =>
  cases hw2 : (o.what == 2) with
  | true =>
    have e1 : act D o = D.flush.2 := by unfold act; rw [if_neg (by simpa using hw1), if_pos (by simpa using hw2)]
    have E1 := Lib.hid e1
    clear e1
    go_enter Try.func22, Try.ntmps22
    go_wp2_with (go_at_call 14; refine (flush_any HK.out).mono ?_; rintro e w' ⟨rfl, hq1, hq2⟩; have HQ := Lib.hid hq1; have HT := Lib.hid ((TX.out.mono (by simp)).trans hq2); clear hq1 hq2)
    go_end0
    rw [E1.out]
    exact ⟨rfl, HQ.out, HT.out⟩
  | false =>
  cases hw3 : (o.what == 3) with
  | true =>
    have hw : o.what = 3 := by simpa using hw3
    have e1 : act D o = D := by unfold act; rw [hw]; rfl
    have E1 := Lib.hid e1
    clear e1 hw
    go_enter Try.func22, Try.ntmps22
    go_wp2_with (go_at_call 17; refine (read_any HK.out o.i).mono ?_; rintro e w' ⟨rfl, hq1⟩; have HQ := Lib.hid (HK.out.touch hq1 (by simp) (by simp) (by simp)); have HT := Lib.hid ((TX.out.trans hq1).mono (S' := [d, L, M]) (by simp)); clear hq1)
    go_end0
    rw [E1.out]
    exact ⟨rfl, HQ.out, HT.out⟩
  | false =>
  cases hw4 : (o.what == 4) with
  | true =>
    have hw : o.what = 4 := by simpa using hw4
    have e1 : act D o = (D.arm o.i).2 := by unfold act; rw [hw]; rfl
    have E1 := Lib.hid e1
    clear e1 hw
    go_enter Try.func22, Try.ntmps22
    go_wp2_with (go_at_call 11; refine (arm_any HK.out o.i HO.out.hi).mono ?_; rintro e w' ⟨rfl, hq1, hq2⟩; have HQ := Lib.hid hq1; have HT := Lib.hid ((TX.out.mono (S' := [d, L, M]) (by simp)).trans (hq2.mono (by simp))); clear hq1 hq2)
    go_end0
    rw [E1.out]
    exact ⟨rfl, HQ.out, HT.out⟩
  | false =>
  cases hw5 : (o.what == 5) with
  | true =>
    have hw : o.what = 5 := by simpa using hw5
    have e1 : act D o = D.off := by unfold act; rw [hw]; rfl
    have E1 := Lib.hid e1
    clear e1 hw
    go_enter Try.func22, Try.ntmps22
    go_wp2_with (go_at_call 24; refine (off_any HK.out).mono ?_; rintro e w' ⟨rfl, hq1, hq2⟩; have HQ := Lib.hid hq1; have HT := Lib.hid ((TX.out.mono (S' := [d, L, M]) (by simp)).trans (hq2.mono (by simp))); clear hq1 hq2)
    go_end0
    rw [E1.out]
    exact ⟨rfl, HQ.out, HT.out⟩
  | false =>
  cases hw6 : (o.what == 6) with
  | true =>
    have hw : o.what = 6 := by simpa using hw6
    have e1 : act D o = (D.on o.keep).2 := by unfold act; rw [hw]; rfl
    have E1 := Lib.hid e1
    clear e1 hw
    go_enter Try.func22, Try.ntmps22
    go_wp2_with (go_at_call 18; refine (on_any HK.out o.ka o.kcap o.keep (HO.out.keep.touch TX.out (by simp)) HO.out.len HAP.out).mono ?_; rintro e w' ⟨rfl, hq1, hq2⟩; have HQ := Lib.hid hq1; have HT := Lib.hid ((TX.out.mono (by simp)).trans hq2); clear hq1 hq2)
    go_end0
    rw [E1.out]
    exact ⟨rfl, HQ.out, HT.out⟩
  | false =>
  have e1 : act D o = D := by
    unfold act
    rw [if_neg (by simpa using hw1), if_neg (by simpa using hw2), if_neg (by simpa using hw4), if_neg (by simpa using hw5), if_neg (by simpa using hw6)]
  have E1 := Lib.hid e1
  clear e1
  cases hw7 : (o.what == 7) with
  | true =>
    go_enter Try.func22, Try.ntmps22
    go_wp2_with (first | (go_at_call 25; refine (pending_any HK.out).mono ?_; rintro e w' ⟨hq1, v, rfl, hq2⟩; have HQ := Lib.hid (HK.out.touch hq1 (by simp) (by simp) (by simp)); have HT := Lib.hid ((TX.out.trans hq1).mono (S' := [d, L, M]) (by simp)); clear hq1 hq2) | (go_at_call 16; refine (counts_any HQ.out).mono ?_; rintro e w' ⟨rfl, hq1⟩; have HQ2 := Lib.hid (HQ.out.touch hq1 (by simp) (by simp) (by simp)); have HT2 := Lib.hid (HT.out.trans (hq1.mono (by simp))); clear hq1) | (go_at_call 15; refine (dead_any HQ2.out).mono ?_; rintro e w' ⟨rfl, rfl⟩) | (go_at_call 28; refine (size_any HQ2.out).mono ?_; rintro e w' ⟨rfl, rfl⟩))
    go_end0
    rw [E1.out]
    exact ⟨rfl, HQ2.out, HT2.out⟩
  | false =>
  cases hw8 : (o.what == 8) with
  | true =>
    go_enter Try.func22, Try.ntmps22
    go_wp2_with (go_at_call 23; refine (sectors_any HK.out).mono ?_; rintro e w' ⟨hq1, k, cap', rfl, hq2, hq3⟩; have HQ := Lib.hid (HK.out.touch hq1 (by simp) (by simp) (by simp)); have HT := Lib.hid ((TX.out.trans hq1).mono (S' := [d, L, M]) (by simp)); clear hq1 hq2 hq3)
    go_end0
    rw [E1.out]
    exact ⟨rfl, HQ.out, HT.out⟩
  | false =>
    go_enter Try.func22, Try.ntmps22
    go_wp2_with fail
    go_end0
    rw [E1.out]
    exact ⟨rfl, HK.out, TX.out.mono (by simp)⟩
end Go.Proofs.Ytpfgjopiddopbaa
