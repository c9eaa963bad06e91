/-
  A page of numbers: package wal's numbers.
-/
import Derived.Test.YthbaipljlbddcaaGreatFrameW
namespace Go.Proofs.YthbaipljlbddcaaGreat
open Go.RowKit Go.Cib
/-- A slice of numbers of 32 bits. -/
def NumsAt (w : World) (a : Option Addr) (l : List Nat) : Prop := ∀ (j n : Nat), l[j]? = some n → ∃ b o : Nat, a = some ⟨b, o, none⟩ ∧ w.cell? ⟨b, o + j, none⟩ = some (.int .u32 n)
theorem NumsAt.later {w w' : World} {a : Option Addr} {l : List Nat} (h : NumsAt w a l) (ht : Tch [] w w') : NumsAt w' a l := by
  intro j n hj
  obtain ⟨b, o, e, hc⟩ := h j n hj
  exact ⟨b, o, e, cell_old ht hc⟩

set_option maxRecDepth 20000 in
set_option maxHeartbeats 2000000 in
theorem numbers_any {w : World} {a : Option Addr} {cap : Nat} {l : List Nat} (h : NumsAt w a l) (hl : l.length ≤ 1000) (hn : ∀ n ∈ l, n < 4294967296) :
    Calls Tryz.prog 71 #[.slice a l.length cap] w fun e w' => e = .returned (.agg (secA (numsPage l))) ∧ Tch [] w w' := by
  obtain ⟨w1, hw1⟩ : ∃ w1, (w.alloc (.cells (secA (Arr.zero : Page)) 64)).alloc (.cells (secA (Arr.zero : Page)) 64) = w1 := ⟨_, rfl⟩
  have HW1 := Lib.hid hw1
  have HH := Lib.hid h
  have HN := Lib.hid hn
  clear hw1 h hn
  obtain ⟨m, hm⟩ : ∃ m, l.length = m := ⟨_, rfl⟩
  rw [hm] at hl ⊢
  have HM := Lib.hid hm
  clear hm
  go_enter Tryz.func71, Tryz.ntmps71
  go_upto_region 2 with ((with_reducible refine wc_alloc_arr pageT ?_); go_frame; (try simp only [World.size_alloc]))
  rw [HW1.out]
  have hR : w1.heap[w.heap.size]? = some (.cells (secA (Arr.zero : Page)) 64) := by
    rw [← HW1.out, heap_alloc, if_neg (by simp), heap_alloc, if_pos rfl]
  have hP : w1.heap[w.heap.size + 1]? = some (.cells (secA (Arr.zero : Page)) 64) := by
    rw [← HW1.out, heap_alloc, if_pos (by simp)]
  have ht : Tch [] w w1 := by rw [← HW1.out]; exact ((Tch.refl _ _).alloc _).alloc _
  have R1 := Lib.hid hR
  have P1 := Lib.hid hP
  have T1 := Lib.hid ht
  clear hR hP ht HW1
  go_wp2_with fail
  go_loopg [4, 6, 9] m (fun q v _ i wr => ∃ j, OnAt m i q j ∧ BytesV wr v ((l.take j).flatMap fun n => be 4 n) ∧ Tch [] w1 wr)
  case atStart => exact ⟨0, ⟨Nat.zero_le _, rfl, rfl⟩, ⟨none, 0, rfl, bytesAt_nil _ _⟩, Tch.refl _ _⟩
  case round =>
    obtain ⟨j, ⟨hj, rfl, rfl⟩, ⟨va, vc, rfl, hv⟩, hT⟩ := hrel
    have HV := Lib.hid hv
    have HT := Lib.hid hT
    have hlen : ((l.take j).flatMap fun n => be 4 n).length = 4 * j := by
      rw [length_nums, List.length_take, HM.out]; omega
    have HLEN := Lib.hid hlen
    clear hv hT
    by_cases hjm : j < m
    · have hjl : j < l.length := by have := HM.out; omega
      have hx : l[j]? = some (l[j]'hjl) := List.getElem?_eq_getElem _
      generalize l[j]'hjl = n at *
      have hnb := HN.out n (List.mem_of_getElem? hx)
      obtain ⟨b, o, rfl, hc⟩ := (HH.out.later (T1.out.trans HT.out)) j n hx
      have HX := Lib.hid hx
      generalize hq : ((l.take j).flatMap fun n => be 4 n) = q at *
      have HQ := Lib.hid hq
      clear hq
      have CP := Lib.hid (put32_any (cap := vc) HV.out (by rw [hlen]; omega) n hnb)
      clear hlen hx
      go_wp2_with (go_at_call 90; refine CP.out.mono ?_; rintro e w5 ⟨v, rfl, q1, q2⟩; have V5 := Lib.hid q1; have T5 := Lib.hid (HT.out.trans q2); clear q1 q2)
      go_roundg (m - (j + 1))
      case measure => omega
      case rel =>
        refine ⟨j + 1, ⟨by omega, by go_num, rfl⟩, ?_, T5.out⟩
        have hx : l[j]? = some n := HX.out
        rw [List.take_add_one, hx, List.flatMap_append, HQ.out]
        have := V5.out
        simpa using this
    · have hfull : l.take j = l := List.take_of_length_le (by have := HM.out; omega)
      rw [hfull] at HV HLEN ⊢
      have HF := Lib.hid hfull
      clear hlen hfull
      generalize hq : (l.flatMap fun n => be 4 n) = q at *
      have HQ := Lib.hid hq
      have hql : q.length ≤ 4000 := by have := HLEN.out; omega
      have R2 := Lib.hid (HT.out.heap R1.out (by simp))
      have P2 := Lib.hid (HT.out.heap P1.out (by simp))
      clear hq HLEN
      have COPY : Hid (∀ {ops : Array Oper} {rest : List Oper} {a2 : Act} {Q : Exit → Act → World → Prop} {dst : Option Tmp} {ty : TypeId} {pos : String} {af : Array Edge} {x y : Operand}, a2.eval x = .slice (some ⟨w.heap.size + 1, 0, none⟩) 480 480 → a2.eval y = .slice va q.length vc →
          (∀ n w', w'.heap[w.heap.size + 1]? = some (.cells (secA (numsPage l)) 64) → Tch [w.heap.size + 1] wr w' → wpList Tryz.prog ops Q rest (a2.put dst (goInt n)) w') → wpList Tryz.prog ops Q (⟨dst, .call { callee := .builtin .copy, args := #[x, y], argTypes := #[130, 130] }, ty, pos, af, none⟩ :: rest) a2 wr) := by
        intro ops rest a2 Q dst ty pos af x y hx hy h
        refine wc_copy_bytes (l := q) (dLen := 480) byteT P2.out (by rw [(Arr.zero : Page).h]; omega) HV.out hx hy ?_
        refine h _ _ ?_ ((Tch.refl [w.heap.size + 1] _).setRow (.inl (by simp)) _)
        rw [setRow_heap _ _ _ _ _ _ P2.out]
        have e : (Arr.zero : Page).l.take 0 ++ q.take 480 ++ (Arr.zero : Page).l.drop (0 + Nat.min q.length 480) = (numsPage l).l := by
          unfold numsPage
          rw [HQ.out]
          show [] ++ q.take 480 ++ (List.replicate 480 (0 : UInt8)).drop (0 + Nat.min q.length 480) = q.take 480 ++ List.replicate (480 - q.length) 0
          rw [List.nil_append, List.drop_replicate, Nat.zero_add]
          congr 2
          show 480 - min q.length 480 = 480 - q.length
          omega
        rw [e]
        rfl
      have hBQ : w.heap.size + 1 ≠ w.heap.size := by omega
      go_wp2_with (first | ((with_reducible apply COPY.out); exact rfl; exact rfl; intro nn w8 hg8 ht8; go_frame; have P8 := Lib.hid hg8; have R8 := Lib.hid (ht8.heap R2.out (by simp)); have T8 := Lib.hid (HT.out.mono (S' := [w.heap.size + 1]) (by simp) |>.trans ht8); clear hg8 ht8) | ((with_reducible apply wc_load_var pageT P8.out); exact rfl; go_frame) | ((with_reducible apply wc_store_var pageT R8.out); exact rfl; exact rfl; go_frame))
      refine bodyPost_ret (res_cell pageT.agg rfl _ rfl (setRow_heap _ _ _ _ _ _ R8.out) (size_secA _)) rfl ?_
      exact ⟨rfl, (tch_own T1.out T8.out (by simp)).setRow (.inr (by omega)) _⟩
end Go.Proofs.YthbaipljlbddcaaGreat
