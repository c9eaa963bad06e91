/-
  A disk of sectors that are laid: Load of both; the walk of DiskLoads.
-/
import Derived.Test.YtpfgjopiddopbaaArrs
import Derived.Test.YtpfgjopiddopbaaPlays
namespace Go.Proofs.Ytpfgjopiddopbaa
open Go.RowKit Go.Cib

def loaded (ls : List Sec) : DiskS := { DiskS.made ls.length with lasts := ls }
theorem loaded_ok {ls : List Sec} (h1 : 1 ≤ ls.length) (h2 : ls.length ≤ 16384) : (loaded ls).Ok := ⟨h1, h2, by simp [loaded, DiskS.made], by simp [loaded, DiskS.made], by simp [loaded, DiskS.made]⟩

set_option maxHeartbeats 400000 in
theorem load_no (w : World) : Calls Try.prog 29 #[.slice none 0 0] w fun e w' => e = .returned (.tuple #[.pointer none, .int .i64 2]) ∧ w = w' := by
  go_enter Try.func29, Try.ntmps29
  go_wp2_with (go_at_call 10; refine (new_no _ 0 (.inl (by omega))).mono ?_; rintro e w' ⟨rfl, rfl⟩)
  go_ret2
  exact ⟨rfl, rfl⟩
set_option maxHeartbeats 400000 in
theorem refLoad_no (w : World) : Calls Try.prog 30 #[.slice none 0 0] w fun e w' => e = .returned (.tuple #[.pointer none, .int .i64 2]) ∧ w = w' := by
  go_enter Try.func30, Try.ntmps30
  go_wp2_with (go_at_call 20; refine (refNew_no _ 0 (.inl (by omega))).mono ?_; rintro e w' ⟨rfl, rfl⟩)
  go_loopg [6] 0 (fun q i wr => q = 0 ∧ i = .int .i64 0 ∧ w = wr)
  case atStart => exact ⟨rfl, rfl, rfl⟩
  case round =>
    obtain ⟨rfl, rfl, rfl⟩ := hrel
    go_wp2_with fail
    go_ret2
    exact ⟨rfl, rfl⟩

set_option maxHeartbeats 1000000 in
theorem load_any {w : World} {b : Nat} {ls : List Sec} {cap : Nat} (hb : SecsIn w b ls) (h1 : 1 ≤ ls.length) (h2 : ls.length ≤ 16384) :
    Calls Try.prog 29 #[.slice (some ⟨b, 0, none⟩) ls.length cap] w fun e w' => ∃ d L M, e = .returned (.tuple #[.pointer (some ⟨d, 0, none⟩), .int .i64 0]) ∧
      DiskAt w' d L M (loaded ls) ∧ Tch [] w w' ∧ w.heap.size ≤ d ∧ w.heap.size ≤ L ∧ w.heap.size ≤ M := by
  have HB := Lib.hid hb
  have blt : b < w.heap.size := by obtain ⟨cur, e, g, _⟩ := hb; exact lt_of_heap g
  clear hb
  obtain ⟨n, hn⟩ : ∃ n, ls.length = n := ⟨_, rfl⟩
  rw [hn] at h1 h2 ⊢
  have HN := Lib.hid hn
  clear hn
  go_enter Try.func29, Try.ntmps29
  go_wp2_with fail
  refine (new_any w n h1 h2).mono ?_
  rintro e w1 ⟨d, L, M, rfl, g1, t1, n1, n2, n3⟩
  have c0 := cell_of_row w1 d 0 _ _ _ g1.hd
  simp only [List.getElem?_toArray, List.getElem?_cons_zero] at c0
  have hl0 : (DiskS.made n).lasts.length = n := by simp [DiskS.made]
  rw [hl0] at c0
  have HL0 : Hid ((DiskS.made n).lasts.length = ls.length) := hl0.trans HN.out.symm
  have HB1 := Lib.hid (HB.out.touch t1 (by simp))
  have G1 := Lib.hid g1
  have T1 := Lib.hid t1
  have COPY : Hid (∀ {ops : Array Oper} {rest : List Oper} {a : Act} {Q : Exit → Act → World → Prop} {dst : Option Tmp} {ty : TypeId} {pos : String} {af : Array Edge} {x y : Operand}, a.eval x = .slice (some ⟨L, 0, none⟩) n n → a.eval y = .slice (some ⟨b, 0, none⟩) n cap →
      wpList Try.prog ops Q rest (a.put dst (goInt n)) (w1.setRow L (secsA ls)) → wpList Try.prog ops Q (⟨dst, .call { callee := .builtin .copy, args := #[x, y], argTypes := #[48, 48] }, ty, pos, af, none⟩ :: rest) a w1) := by
    intro ops rest a Q dst ty pos af x y hx hy h
    have hn := HN.out
    subst hn
    exact wc_copy_arrs secT uSecs G1.out.hL HB1.out HL0.out rfl rfl hx hy h
  clear g1 t1 hl0
  go_wp2_with ((with_reducible apply COPY.out); exact rfl; exact rfl; go_frame)
  go_ret2
  have hn := HN.out
  subst hn
  have g := G1.out
  have ht : Tch [L] w1 (w1.setRow L (secsA ls)) := (Tch.refl _ _).setRow (by simp) _
  refine ⟨d, L, M, rfl, ⟨?_, setRow_heap _ _ _ _ _ _ g.hL, ?_, g.dL, g.dM, g.LM, loaded_ok h1 h2⟩, tch_own T1.out ht (by simpa using n2), n1, n2, n3⟩
  · have := ht.heap g.hd (by simpa using g.dL)
    simpa [loaded, DiskS.made] using this
  · exact g.hM.touch ht (by simpa using g.LM.symm)

theorem RefAt.relast {w : World} {r L W H : Nat} {D : DiskS} (h : RefAt w r L W H D) (ls : List Sec) (hl : ls.length = D.lasts.length) : RefAt (w.setRow L (secsA ls)) r L W H { D with lasts := ls } := by
  have ht : Tch [L] w (w.setRow L (secsA ls)) := (Tch.refl _ _).setRow (by simp) _
  obtain ⟨ws, g1, g2, g3⟩ := h.hW
  refine ⟨?_, setRow_heap _ _ _ _ _ _ h.hL, ⟨ws, ht.heap g1 (by simpa using h.d4.symm), g2.trans hl.symm, g3⟩, ?_, h.d1, h.d2, h.d3, h.d4, h.d5, h.d6, ⟨by rw [hl]; exact h.ok.some, by rw [hl]; exact h.ok.size, by simp only [hl]; exact h.ok.sup, h.ok.arm0, h.ok.arm1⟩⟩
  · have := ht.heap h.hr (by simpa using h.d1)
    simpa [hl] using this
  · rw [show hasA { D with lasts := ls } = hasA D by unfold hasA; simp only [hl]]
    exact ht.heap h.hH (by simpa using h.d5.symm)

def RefLoaded (w : World) (ls : List Sec) (e : Ending) (w' : World) : Prop :=
  ∃ r L W H, e = .returned (.tuple #[.pointer (some ⟨r, 0, none⟩), .int .i64 0]) ∧ RefAt w' r L W H (loaded ls) ∧ Tch [] w w' ∧ w.heap.size ≤ r ∧ w.heap.size ≤ L ∧ w.heap.size ≤ W ∧ w.heap.size ≤ H
set_option maxRecDepth 20000 in
set_option maxHeartbeats 1000000 in
theorem refLoad_any {w : World} {b : Nat} {ls : List Sec} {cap : Nat} (hb : SecsIn w b ls) (h1 : 1 ≤ ls.length) (h2 : ls.length ≤ 16384) :
    Calls Try.prog 30 #[.slice (some ⟨b, 0, none⟩) ls.length cap] w (RefLoaded w ls) := by
  have HB := Lib.hid hb
  have blt : b < w.heap.size := by obtain ⟨cur, e, g, _⟩ := hb; exact lt_of_heap g
  clear hb
  obtain ⟨n, hn⟩ : ∃ n, ls.length = n := ⟨_, rfl⟩
  rw [hn] at h1 h2 ⊢
  have HN := Lib.hid hn
  clear hn
  go_enter Try.func30, Try.ntmps30
  go_wp2_with fail
  refine (refNew_any w n h1 h2).mono ?_
  rintro e w1 ⟨r, L, W, H, rfl, g1, t1, n1, n2, n3, n4⟩
  have G1 := Lib.hid g1
  have T1 := Lib.hid t1
  clear g1 t1
  go_wp2_with fail
  go_loopg [6] n (fun q i wr => ∃ j, OnAt n i q j ∧ ∃ ls', RefAt wr r L W H { DiskS.made n with lasts := ls' } ∧ Tch [] w wr ∧ ls'.length = n ∧ ls'.take j = ls.take j)
  case atStart => exact ⟨0, ⟨Nat.zero_le _, rfl, rfl⟩, _, G1.out, T1.out, by simp, rfl⟩
  case round =>
    obtain ⟨j, ⟨hj, rfl, rfl⟩, ls', hR, hT, hl, ht⟩ := hrel
    have c0 := cell_of_row wr r 0 _ _ _ hR.hr
    simp only [List.getElem?_toArray, List.getElem?_cons_zero, hl] at c0
    have HR := Lib.hid hR
    have HT := Lib.hid hT
    have HL := Lib.hid hl
    have HTK := Lib.hid ht
    clear hR hT hl ht G1 T1
    by_cases hjn : j < n
    · have hx : ls[j]? = some (ls[j]'(by have := HN.out; omega)) := List.getElem?_eq_getElem _
      generalize ls[j]'(by have := HN.out; omega) = s at *
      have HX := Lib.hid hx
      have HB1 := Lib.hid (HB.out.touch HT.out (by simp))
      have hjl : j < ls'.length := by have := HL.out; omega
      clear hx
      go_wp2_with fail
      (refine wp_region_walk (C := fun w' => ∃ n, w' = World.drewN wr n) 10 (by kernel_rfl) (by kernel_rfl) ⟨1, rfl⟩ ?_; simp only [List.take_succ_cons, List.take_zero, List.drop_succ_cons, List.drop_zero]; (repeat (first | ((with_reducible apply wq_load_in secT (drewN_secs HB1.out) HX.out); exact rfl; exact rfl; go_frame) | go_big_quiet_step (fail))); refine wpQuiet_nil ?_; intro _ hw'; obtain ⟨nq, hw''⟩ := hw'; subst hw'')
      apply wc_store_row secT (drewN_heap HR.out.hL _ ⟨nq, rfl⟩) hjl
      · exact rfl
      · exact rfl
      go_frame
      go_wp2_with fail
      go_roundg (n - (j + 1))
      case measure => omega
      case rel =>
        have t2 := tch_drewN wr nq
        have hr := HR.out.touch t2 (by simp) (by simp) (by simp) (by simp)
        have hr2 := hr.relast (ls'.set j s) (by simp)
        have e1 : ls'.take j = ls.take j := HTK.out
        have e2 : ls[j]? = some s := HX.out
        refine ⟨j + 1, ⟨by omega, by go_num, rfl⟩, _, hr2, tch_own (HT.out.trans t2) ((Tch.refl [L] _).setRow (by simp) _) (by simpa using n2), by simpa using HL.out, ?_⟩
        rw [List.take_add_one, List.take_add_one, e2, List.take_set_of_le (Nat.le_refl _), e1]
        simp [hjl]
    · go_wp2_with fail
      go_ret2
      have hn := HN.out
      have e1 : ls'.take j = ls.take j := HTK.out
      have e3 : ls'.length = n := HL.out
      rw [List.take_of_length_le (by omega), List.take_of_length_le (by omega)] at e1
      subst e1
      subst hn
      exact ⟨r, L, W, H, rfl, HR.out, HT.out, n1, n2, n3, n4⟩
end Go.Proofs.Ytpfgjopiddopbaa
