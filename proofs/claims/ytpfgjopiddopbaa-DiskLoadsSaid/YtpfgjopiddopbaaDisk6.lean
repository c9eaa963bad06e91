/-
  A new disk; the text of a sector.
-/
import Derived.Test.YtpfgjopiddopbaaDisk5
import Derived.Test.YtpfgjopiddopbaaMem
namespace Go.Proofs.Ytpfgjopiddopbaa
open Go.RowKit Go.Cib

theorem uSecs : Try.prog.underlying 48 = some (.slice 33) := by kernel_rfl

set_option maxHeartbeats 400000 in
theorem new_no (w : World) (n : Int) (hn : n < 1 ∨ 16384 < n) :
    Calls Try.prog 10 #[.int .i64 n] w fun e w' => e = .returned (.tuple #[.pointer none, .int .i64 2]) ∧ w = w' := by
  by_cases h1 : n < 1
  · clear hn
    go_enter Try.func10, Try.ntmps10
    go_wp2
    go_ret2
    exact ⟨rfl, rfl⟩
  · have h2 : 16384 < n := by omega
    clear hn
    go_enter Try.func10, Try.ntmps10
    go_wp2
    go_ret2
    exact ⟨rfl, rfl⟩

set_option maxHeartbeats 400000 in
theorem new_any (w : World) (n : Nat) (h1 : 1 ≤ n) (h2 : n ≤ 16384) :
    Calls Try.prog 10 #[.int .i64 n] w fun e w' => ∃ d L M, e = .returned (.tuple #[.pointer (some ⟨d, 0, none⟩), .int .i64 0]) ∧
      DiskAt w' d L M (DiskS.made n) ∧ Tch [] w w' ∧ w.heap.size ≤ d ∧ w.heap.size ≤ L ∧ w.heap.size ≤ M := by
  go_enter Try.func10, Try.ntmps10
  go_wp2_with (first | ((with_reducible apply wc_makeArrs secT uSecs (m := n)); omega; omega; exact rfl; exact rfl; go_frame) | ((with_reducible apply wc_makeMap kInt); intro hm; have HM := Lib.hid hm; clear hm; go_frame))
  go_ret2
  refine ⟨w.heap.size + 2, w.heap.size, w.heap.size + 1, rfl, ⟨?_, ?_, ?_, by omega, by omega, by omega, DiskS.Ok.made h1 h2⟩, (((Tch.refl _ _).alloc _).alloc _).alloc _, by omega, by omega, by omega⟩
  · rw [heap_alloc, if_pos (by simp)]
    simp [DiskS.made]
  · rw [heap_alloc, if_neg (by simp; omega), heap_alloc, if_neg (by simp), heap_alloc, if_pos rfl]
    rfl
  · have := HM.out
    rw [World.size_alloc] at this
    exact this.touch ((Tch.refl [] _).alloc _) (by simp)

theorem text_step (l : List UInt8) (k : Nat) (b : UInt8) (hk : k < 512) (hb : l[k]? = some b) : ((Arr.text (l.take k) : Sec).l.set k b) = (Arr.text (l.take (k + 1)) : Sec).l := by
  have hl := (List.getElem?_eq_some_iff.1 hb).1
  simp only [Arr.text]
  have e1 : (l.take k).length = k := by rw [List.length_take]; omega
  have e2 : (l.take (k + 1)).length = k + 1 := by rw [List.length_take]; omega
  rw [List.take_of_length_le (by omega : (l.take k).length ≤ 512), List.take_of_length_le (by omega : (l.take (k + 1)).length ≤ 512), e1, e2]
  rw [show List.take (k + 1) l = List.take k l ++ [b] by rw [List.take_add_one, hb]; rfl]
  rw [show 512 - k = (512 - (k + 1)) + 1 by omega, List.replicate_succ, List.set_append_right _ _ (by omega), e1, Nat.sub_self, List.set_cons_zero, List.append_assoc]
  rfl
theorem text_full (l : List UInt8) (k : Nat) (hk : 512 ≤ k ∨ l.length ≤ k) : (Arr.text (l.take k) : Sec) = Arr.text l := by
  apply Arr.ext'
  simp only [Arr.text]
  rcases hk with hk | hk
  · rw [List.take_take, Nat.min_eq_left hk, List.length_take]
    congr 2
    omega
  · rw [List.take_of_length_le hk]

/-- The text's first k bytes are laid. -/
def TextRel (w0 : World) (X : Nat) (s : ByteArray) (k : Nat) (wr : World) : Prop :=
  wr.heap[X]? = some (.cells (secA (Arr.text (s.data.toList.take k) : Sec)) 33) ∧ Tch [X] w0 wr

set_option maxRecDepth 20000 in
set_option maxHeartbeats 400000 in
theorem text_any (s : ByteArray) (w : World) (_hs : s.size ≤ 9223372036854775807) :
    Calls Try.prog 13 #[.string s] w fun e w' => e = .returned (.agg (secA (Arr.text s.data.toList : Sec))) ∧ Tch [] w w' := by
  obtain ⟨W1, hW1⟩ : ∃ W1, W1 = (w.alloc (.cells (secA (Arr.zero : Sec)) 33)).alloc (.cells (secA (Arr.zero : Sec)) 33) := ⟨_, rfl⟩
  have HW1 := Lib.hid hW1
  have hrel : TextRel W1 (w.heap.size + 1) s 0 W1 := ⟨by
    rw [hW1, heap_alloc, if_pos (by simp)]
    rfl, Tch.refl _ _⟩
  have HREL := Lib.hid hrel
  clear hrel hW1
  go_enter Try.func13, Try.ntmps13
  go_wp2_with ((with_reducible refine wc_alloc_arr secT ?_); go_frame; (try simp only [World.size_alloc]))
  rw [← HW1.out]
  go_loopg [4] s.size (fun k i wr => ∃ j, OnAt s.size i k j ∧ TextRel W1 (w.heap.size + 1) s j wr)
  case atStart => exact ⟨0, ⟨Nat.zero_le _, rfl, rfl⟩, HREL.out⟩
  case round =>
    obtain ⟨j, ⟨hj, rfl, rfl⟩, hX, hT⟩ := hrel
    have HX := Lib.hid hX
    have HT := Lib.hid hT
    have hB : wr.heap[w.heap.size]? = some (.cells (secA (Arr.zero : Sec)) 33) := by
      refine hT.heap ?_ (by simp)
      rw [HW1.out, heap_alloc, if_neg (by simp), heap_alloc, if_pos rfl]
    have HB := Lib.hid hB
    clear hT hB
    by_cases hj1 : j < s.size
    · by_cases hj2 : j < 512
      · have hc : wr.cell? ⟨w.heap.size + 1, j, none⟩ = some (bv ((Arr.text (s.data.toList.take j) : Sec).l.getD j 0)) := by
          rw [cell_of_row wr _ j _ _ _ hX, secA, bytesA_get, List.getD_eq_getElem?_getD, List.getElem?_eq_getElem (by rw [Arr.h]; exact hj2)]
          rfl
        have hf := frozen_of_row wr (w.heap.size + 1) j _ _ hX
        clear hX
        go_wp2
        go_roundg (s.size - (j + 1))
        case measure => omega
        case rel =>
          have hb : s.data.toList[j]? = some s[j] := by
            rw [Array.getElem?_toList]
            exact Array.getElem?_eq_getElem hj1
          refine ⟨j + 1, ⟨by omega, by go_num, rfl⟩, ?_, HT.out.trans ((Tch.refl _ _).setCell (.inl (by simp)) _)⟩
          rw [heap_setCell_cells HX.out]
          have e := text_step s.data.toList j s[j] hj2 hb
          simp only [secA, ← e]
          rw [← bytesA_set]
          rfl
      · have hfull := text_full s.data.toList j (by omega)
        have HF := Lib.hid hfull
        clear hX hfull
        (go_wp2_with (first | ((with_reducible apply wc_load_var secT HX.out); exact rfl; go_frame) | ((with_reducible apply wc_store_var secT HB.out); exact rfl; exact rfl; go_frame)); refine bodyPost_ret (res_cell secT.agg rfl _ rfl (setRow_heap _ _ _ _ _ _ HB.out) (size_secA _)) rfl ?_; refine ⟨by rw [HF.out], ?_⟩; have t1 : Tch [w.heap.size, w.heap.size + 1] w wr := Tch.trans (by rw [HW1.out]; exact ((Tch.refl _ _).alloc _).alloc _) (HT.out.mono (by simp)); exact (t1.setRow (.inl (by simp)) _).drop (by simp))
    · have hfull := text_full s.data.toList j (.inr (by rw [Array.length_toList]; show s.size ≤ j; omega))
      have HF := Lib.hid hfull
      clear hX hfull
      (go_wp2_with (first | ((with_reducible apply wc_load_var secT HX.out); exact rfl; go_frame) | ((with_reducible apply wc_store_var secT HB.out); exact rfl; exact rfl; go_frame)); refine bodyPost_ret (res_cell secT.agg rfl _ rfl (setRow_heap _ _ _ _ _ _ HB.out) (size_secA _)) rfl ?_; refine ⟨by rw [HF.out], ?_⟩; have t1 : Tch [w.heap.size, w.heap.size + 1] w wr := Tch.trans (by rw [HW1.out]; exact ((Tch.refl _ _).alloc _).alloc _) (HT.out.mono (by simp)); exact (t1.setRow (.inl (by simp)) _).drop (by simp))
end Go.Proofs.Ytpfgjopiddopbaa
