/-
  The statements' own check that a disk works at all: 'works' answers true.
-/
import Derived.Test.YtpfgjopiddopbaaDisk6
namespace Go.Proofs.Ytpfgjopiddopbaa
open Go.RowKit Go.Cib

/-- A disk of the call's own, and sectors in variables of its own, in a world that came of w0. -/
structure WK (w0 w : World) (d L M : Nat) (D : DiskS) (B : List (Nat × Sec)) : Prop where
  disk : DiskAt w d L M D
  tch : Tch [] w0 w
  dn : w0.heap.size ≤ d
  Ln : w0.heap.size ≤ L
  Mn : w0.heap.size ≤ M
  box : ∀ x ∈ B, w.heap[x.1]? = some (.cells (secA x.2) 33) ∧ x.1 ≠ d ∧ x.1 ≠ L ∧ x.1 ≠ M ∧ w0.heap.size ≤ x.1

theorem tch_own {w0 w w' : World} {S : List Nat} (h : Tch [] w0 w) (h' : Tch S w w') (hS : ∀ k ∈ S, w0.heap.size ≤ k) : Tch [] w0 w' :=
  ((h.mono (S' := S) (by simp)).trans h').drop (fun k hk => .inr (hS k hk))
theorem WK.step {w0 w w' : World} {d L M : Nat} {D D' : DiskS} {B : List (Nat × Sec)} (h : WK w0 w d L M D B) (hd : DiskAt w' d L M D') (ht : Tch [d, L, M] w w') : WK w0 w' d L M D' B :=
  ⟨hd, tch_own h.tch ht (by have := h.dn; have := h.Ln; have := h.Mn; simp; omega), h.dn, h.Ln, h.Mn, fun x hx => by
    obtain ⟨h1, h2, h3, h4, h5⟩ := h.box x hx
    exact ⟨ht.heap h1 (by simp [h2, h3, h4]), h2, h3, h4, h5⟩⟩
theorem WK.same {w0 w w' : World} {d L M : Nat} {D : DiskS} {B : List (Nat × Sec)} (h : WK w0 w d L M D B) (ht : Tch [] w w') : WK w0 w' d L M D B :=
  h.step (h.disk.touch ht (by simp) (by simp) (by simp)) (ht.mono (by simp))
theorem WK.put {w0 w : World} {d L M : Nat} {D : DiskS} {B : List (Nat × Sec)} (h : WK w0 w d L M D B) (s : Sec) : WK w0 (w.alloc (.cells (secA s) 33)) d L M D ((w.heap.size, s) :: B) := by
  have h' := h.same ((Tch.refl [] w).alloc (.cells (secA s) 33))
  refine ⟨h'.disk, h'.tch, h.dn, h.Ln, h.Mn, fun x hx => ?_⟩
  rcases List.mem_cons.1 hx with rfl | hx
  · exact ⟨heap_alloc_new _ _, (ne_size h.disk.hd).symm, (ne_size h.disk.hL).symm, (Nat.ne_of_lt h.disk.hM.lt).symm, h.tch.size⟩
  · exact h'.box x hx
theorem WK.got {w0 w : World} {d L M : Nat} {D : DiskS} {B : List (Nat × Sec)} (h : WK w0 w d L M D B) {b : Nat} {s : Sec} (hb : (b, s) ∈ B) : w.heap[b]? = some (.cells (secA s) 33) := (h.box _ hb).1

def txtA : Sec := Arr.text [97]
def txtB : Sec := Arr.text [98]

theorem textA_any (w : World) : Calls Try.prog 13 #[.string { data := #[97] }] w fun e w' => e = .returned (.agg (secA txtA)) ∧ Tch [] w w' := text_any _ _ (by decide)
theorem textB_any (w : World) : Calls Try.prog 13 #[.string { data := #[98] }] w fun e w' => e = .returned (.agg (secA txtB)) ∧ Tch [] w w' := text_any _ _ (by decide)

def wD0 : DiskS := DiskS.made 3
def wD1 : DiskS := { wD0 with writes := 1, waits := fun j => if j = 1 then some txtA else none }
def wD2 : DiskS := { wD1 with flushes := 1, lasts := [Arr.zero, txtA, Arr.zero], waits := fun _ => none }
def wD3 : DiskS := { wD2 with writes := 2, waits := fun j => if j = 1 then some txtB else none }
def wD4 : DiskS := { wD3 with writes := 3, waits := fun j => if j = 2 then some txtB else if j = 1 then some txtB else none }
def wD5 : DiskS := wD4.off
def wD6 : DiskS := { wD5 with dead := false, lasts := [Arr.zero, txtA, txtB], waits := fun _ => none }
theorem w_1 : wrap64 1 = 1 := by unfold wrap64; rfl
theorem w_2 : wrap64 2 = 2 := by unfold wrap64; rfl
theorem w_3 : wrap64 3 = 3 := by unfold wrap64; rfl
theorem wE1 : wD0.write 1 txtA = (0, wD1) := by
  simp [DiskS.write, DiskS.may, wD0, wD1, DiskS.made, DiskS.went, DiskS.put, DiskS.goes, w_1]
theorem wE2 : wD1.flush = (0, wD2) := by
  simp [DiskS.flush, DiskS.went, DiskS.counted, DiskS.goes, DiskS.flushed, wD2, wD1, wD0, DiskS.made, w_1, DiskS.lay, List.range_succ]
theorem wE3 : wD2.write 1 txtB = (0, wD3) := by
  simp [DiskS.write, DiskS.may, wD0, wD1, wD2, wD3, DiskS.made, DiskS.went, DiskS.put, DiskS.goes, w_2]
theorem wE4 : wD3.write 2 txtB = (0, wD4) := by
  simp [DiskS.write, DiskS.may, wD0, wD1, wD2, wD3, wD4, DiskS.made, DiskS.went, DiskS.put, DiskS.goes, w_3]
theorem wE6 : wD5.on [2] = (0, wD6) := by
  simp [DiskS.on, DiskS.off, wD6, wD5, wD4, wD3, wD2, wD1, wD0, DiskS.made, DiskS.lay, List.range_succ, DiskS.kept]
theorem wE7 : wD6.read 1 = (txtA, 0) := by
  simp [DiskS.read, DiskS.may, DiskS.at_, wD6]
theorem wE8 : wD6.read 2 = (txtB, 0) := by
  simp [DiskS.read, DiskS.may, DiskS.at_, wD6]

set_option maxRecDepth 20000 in
set_option maxHeartbeats 1000000 in
theorem works_any (w : World) : Calls Try.prog 19 #[] w fun e w' => e = .returned (.bool true) ∧ Tch [] w w' := by
  go_enter Try.func19, Try.ntmps19
  go_wp2_with fail
  refine (new_any w 3 (by omega) (by omega)).mono ?_
  rintro e w1 ⟨d, L, M, rfl, h1, t1, n1, n2, n3⟩
  have H1 : Hid (WK w w1 d L M wD0 []) := ⟨h1, t1, n1, n2, n3, by simp⟩
  clear h1 t1 n1 n2 n3
  go_wp2_with (go_at_call 28; refine (size_any H1.out.disk).mono ?_; rintro e w' ⟨rfl, rfl⟩; simp only [wD0, DiskS.made, List.length_replicate])
  refine (textA_any _).mono ?_
  rintro e w2 ⟨rfl, t2⟩
  have H2 : Hid (WK w _ d L M wD0 _) := (H1.out.same t2).put txtA
  clear t2 H1
  go_wp2_with (first | ((with_reducible refine wc_alloc_arr secT ?_); go_frame; (try simp only [World.size_alloc])) | ((with_reducible apply wc_store_new secT); exact rfl; exact rfl; go_frame))
  generalize w2.alloc (.cells (secA txtA) 33) = w3 at *
  generalize w2.heap.size = b3 at *
  clear w2
  refine (textB_any _).mono ?_
  rintro e w4 ⟨rfl, t4⟩
  have H4 : Hid (WK w _ d L M wD0 _) := (H2.out.same t4).put txtB
  clear t4 H2
  go_wp2_with (first | ((with_reducible refine wc_alloc_arr secT ?_); go_frame; (try simp only [World.size_alloc])) | ((with_reducible apply wc_store_new secT); exact rfl; exact rfl; go_frame) | ((with_reducible apply wc_load_var secT (H4.out.got (b := b3) (s := txtA) (by simp))); exact rfl; go_frame))
  generalize w4.alloc (.cells (secA txtB) 33) = w5 at *
  generalize w4.heap.size = b4 at *
  clear w4
  refine (write_any H4.out.disk 1 txtA).mono ?_
  rintro e w6 ⟨rfl, h6, t6⟩
  rw [wE1] at h6 ⊢
  have H6 := Lib.hid (H4.out.step h6 t6)
  clear h6 t6 H4
  go_wp2_with fail
  refine (flush_any H6.out.disk).mono ?_
  rintro e w7 ⟨rfl, h7, t7⟩
  rw [wE2] at h7 ⊢
  have H7 := Lib.hid (H6.out.step h7 t7)
  clear h7 t7 H6
  go_wp2_with ((with_reducible apply wcg_load_var secT (H7.out.got (b := b4) (s := txtB) (by simp))); exact rfl; exact rfl; go_frame)
  refine (write_any H7.out.disk 1 txtB).mono ?_
  rintro e w8 ⟨rfl, h8, t8⟩
  rw [wE3] at h8 ⊢
  have H8 := Lib.hid (H7.out.step h8 t8)
  clear h8 t8 H7
  go_wp2_with ((with_reducible apply wcg_load_var secT (H8.out.got (b := b4) (s := txtB) (by simp))); exact rfl; exact rfl; go_frame)
  refine (write_any H8.out.disk 2 txtB).mono ?_
  rintro e w9 ⟨rfl, h9, t9⟩
  rw [wE4] at h9 ⊢
  have H9 := Lib.hid (H8.out.step h9 t9)
  clear h9 t9 H8
  go_wp2_with fail
  refine (off_any H9.out.disk).mono ?_
  rintro e wa ⟨rfl, ha, ta⟩
  have HA : Hid (WK w wa d L M wD5 _) := H9.out.step ha (ta.mono (by simp))
  clear ha ta H9
  go_wp2_with fail
  have hn := ne_size HA.out.disk.hd
  have hn2 := ne_size HA.out.disk.hL
  have hn3 := Nat.ne_of_lt HA.out.disk.hM.lt
  have hI : IntsAt (wa.alloc (.cells #[.int .i64 2] 3)) (some ⟨wa.heap.size, 0, none⟩) [2] := by
    intro j x hj
    match j, hj with
    | 0, hj => cases hj; exact ⟨_, _, rfl, by simp⟩
  have HI := Lib.hid hI
  have HB : Hid (WK w (wa.alloc (.cells #[.int .i64 2] 3)) d L M wD5 _) := HA.out.same ((Tch.refl _ _).alloc _)
  have HN : Hid (∀ x, some (⟨wa.heap.size, 0, none⟩ : Addr) = some x → x.block ≠ d ∧ x.block ≠ L ∧ x.block ≠ M) := by
    intro x hx; cases hx; exact ⟨hn.symm, hn2.symm, hn3.symm⟩
  clear hI HA hn hn2 hn3
  refine (on_any HB.out.disk _ 1 [2] HI.out (by decide) (fun x _ => HN.out x)).mono ?_
  rintro e wb ⟨rfl, hb, tb⟩
  rw [wE6] at hb ⊢
  have HC := Lib.hid (HB.out.step hb tb)
  clear hb tb HB HI HN
  go_wp2_with fail
  refine (read_any HC.out.disk 1).mono ?_
  rintro e wc ⟨rfl, tc⟩
  rw [wE7]
  have HD : Hid (WK w _ d L M wD6 _) := (HC.out.same tc).put txtA
  clear tc HC
  go_wp2_with (first | ((with_reducible refine wc_alloc_arr secT ?_); go_frame; (try simp only [World.size_alloc])) | ((with_reducible apply wc_store_new secT); exact rfl; exact rfl; go_frame))
  generalize wc.alloc (.cells (secA txtA) 33) = wd at *
  generalize wc.heap.size = b6 at *
  clear wc
  refine (read_any HD.out.disk 2).mono ?_
  rintro e wc ⟨rfl, tc⟩
  rw [wE8]
  have HE : Hid (WK w _ d L M wD6 _) := (HD.out.same tc).put txtB
  clear tc HD
  go_wp2_with (first | ((with_reducible refine wc_alloc_arr secT ?_); go_frame; (try simp only [World.size_alloc])) | ((with_reducible apply wc_store_new secT); exact rfl; exact rfl; go_frame) | ((with_reducible apply wcg_load_var secT (HE.out.got (b := b3) (s := txtA) (by simp))); exact rfl; exact rfl; go_frame) | ((with_reducible apply wcg_load_var secT (HE.out.got (b := b6) (s := txtA) (by simp))); exact rfl; exact rfl; go_frame) | ((with_reducible apply wcg_load_var secT (HE.out.got (b := b4) (s := txtB) (by simp))); exact rfl; exact rfl; go_frame) | ((with_reducible apply wcg_load_var secT (HE.out.got (b := wc.heap.size) (s := txtB) (by simp))); exact rfl; exact rfl; go_frame) | ((with_reducible apply wcg_eql_arr secT); exact rfl; exact rfl; exact rfl; go_frame))
  go_ret
  exact ⟨by simp, HE.out.tch⟩
end Go.Proofs.Ytpfgjopiddopbaa
