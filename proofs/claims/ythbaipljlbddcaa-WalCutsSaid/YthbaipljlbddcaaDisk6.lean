/-
  A new disk; the text of a sector.
-/
import Derived.Test.YthbaipljlbddcaaDisk5
import Derived.Test.YthbaipljlbddcaaMem
namespace Go.Proofs.Ythbaipljlbddcaa
open Go.RowKit Go.Cib

theorem uSecs : Try.prog.underlying 85 = some (.slice 47) := by kernel_rfl

set_option maxRecDepth 20000 in
set_option maxHeartbeats 400000 in
theorem new_no (w : World) (n : Int) (hn : n < 1 ∨ 16384 < n) :
    Calls Try.prog 36 #[.int .i64 n] w fun e w' => e = .returned (.tuple #[.pointer none, .int .i64 2]) ∧ w = w' := by
  by_cases h1 : n < 1
  · clear hn
    go_enter Try.func36, Try.ntmps36
    go_wp2
    go_ret2
    exact ⟨rfl, rfl⟩
  · have h2 : 16384 < n := by omega
    clear hn
    go_enter Try.func36, Try.ntmps36
    go_wp2
    go_ret2
    exact ⟨rfl, rfl⟩

set_option maxRecDepth 20000 in
set_option maxHeartbeats 400000 in
theorem new_any (w : World) (n : Nat) (h1 : 1 ≤ n) (h2 : n ≤ 16384) :
    Calls Try.prog 36 #[.int .i64 n] w fun e w' => ∃ d L M, e = .returned (.tuple #[.pointer (some ⟨d, 0, none⟩), .int .i64 0]) ∧
      DiskAt w' d L M (DiskS.made n) ∧ Tch [] w w' ∧ w.heap.size ≤ d ∧ w.heap.size ≤ L ∧ w.heap.size ≤ M := by
  go_enter Try.func36, Try.ntmps36
  go_wp2_with (first | ((with_reducible apply wc_makeArrs secT uSecs (m := n)); omega; omega; exact rfl; exact rfl; go_frame) | ((with_reducible apply wc_makeMap kInt); intro hm; have HM := Lib.hid hm; clear hm; go_frame))
  go_ret2
  refine ⟨w.heap.size + 2, w.heap.size, w.heap.size + 1, rfl, ⟨?_, ?_, ?_, by omega, by omega, by omega, DiskS.Ok.made h1 h2⟩, (((Tch.refl _ _).alloc _).alloc _).alloc _, by omega, by omega, by omega⟩
  · rw [heap_alloc, if_pos (by simp)]
    simp [DiskS.made]
  · rw [heap_alloc, if_neg (by simp; omega), heap_alloc, if_neg (by simp), heap_alloc, if_pos rfl]
    rfl
  · have := HM.out
    rw [World.size_alloc] at this
    exact this.touch ((Tch.refl [] _).alloc _) (by simp)

theorem text_step (l : List UInt8) (k : Nat) (b : UInt8) (hk : k < 512) (hb : l[k]? = some b) : ((Arr.text (l.take k) : Sec).l.set k b) = (Arr.text (l.take (k + 1)) : Sec).l := by
  have hl := (List.getElem?_eq_some_iff.1 hb).1
  simp only [Arr.text]
  have e1 : (l.take k).length = k := by rw [List.length_take]; omega
  have e2 : (l.take (k + 1)).length = k + 1 := by rw [List.length_take]; omega
  rw [List.take_of_length_le (by omega : (l.take k).length ≤ 512), List.take_of_length_le (by omega : (l.take (k + 1)).length ≤ 512), e1, e2]
  rw [show List.take (k + 1) l = List.take k l ++ [b] by rw [List.take_add_one, hb]; rfl]
  rw [show 512 - k = (512 - (k + 1)) + 1 by omega, List.replicate_succ, List.set_append_right _ _ (by omega), e1, Nat.sub_self, List.set_cons_zero, List.append_assoc]
  rfl
theorem text_full (l : List UInt8) (k : Nat) (hk : 512 ≤ k ∨ l.length ≤ k) : (Arr.text (l.take k) : Sec) = Arr.text l := by
  apply Arr.ext'
  simp only [Arr.text]
  rcases hk with hk | hk
  · rw [List.take_take, Nat.min_eq_left hk, List.length_take]
    congr 2
    omega
  · rw [List.take_of_length_le hk]

/-- The text's first k bytes are laid. -/
def TextRel (w0 : World) (X : Nat) (s : ByteArray) (k : Nat) (wr : World) : Prop :=
  wr.heap[X]? = some (.cells (secA (Arr.text (s.data.toList.take k) : Sec)) 47) ∧ Tch [X] w0 wr

end Go.Proofs.Ythbaipljlbddcaa
