/-
  EqSectors, Clone, Sectors.
-/
import Derived.Test.YtpfgjopiddopbaaSecs
import Derived.Lib.SliceRun
namespace Go.Proofs.Ytpfgjopiddopbaa
open Go.RowKit Go.Cib

set_option maxRecDepth 20000 in
set_option maxHeartbeats 1000000 in
theorem eqSecs_any {w : World} {a b : Nat} {ca cb : Nat} {l m : List Sec} (ha : SecsIn w a l) (hb : SecsIn w b m) (hl : l.length ≤ 9223372036854775807) (hm : m.length ≤ 9223372036854775807) :
    Calls Try.prog 26 #[.slice (some ⟨a, 0, none⟩) l.length ca, .slice (some ⟨b, 0, none⟩) m.length cb] w fun e w' => e = .returned (.bool (decide (l = m))) ∧ Tch [] w w' := by
  have A1 := Lib.hid ha
  have B1 := Lib.hid hb
  clear ha hb
  by_cases hlm : l.length = m.length
  · have HL := Lib.hid hlm
    have hne : ((l.length : Int) != (m.length : Int)) = false := by simp; omega
    generalize hn1 : l.length = n at *
    generalize hn2 : m.length = n2 at *
    have N1 := Lib.hid hn1
    have N2 := Lib.hid hn2
    clear hn1 hn2 hlm
    go_enter Try.func26, Try.ntmps26
    go_wp2_with fail
    go_loopg [5] n (fun k i wr => ∃ j, OnAt n i k j ∧ l.take j = m.take j ∧ Tch [] w wr)
    case atStart => exact ⟨0, ⟨Nat.zero_le _, rfl, rfl⟩, rfl, Tch.refl _ _⟩
    case round =>
      obtain ⟨j, ⟨hj, rfl, rfl⟩, he, ht⟩ := hrel
      have E1 := Lib.hid he
      have T1 := Lib.hid ht
      clear he
      by_cases hjn : j < n
      · have e1 : l.length = n := N1.out
        have e2 : m.length = n2 := N2.out
        have e3 : n = n2 := HL.out
        have hx : l[j]? = some (l[j]'(by omega)) := List.getElem?_eq_getElem _
        have hy : m[j]? = some (m[j]'(by omega)) := List.getElem?_eq_getElem _
        generalize l[j]'(by omega) = x at *
        generalize m[j]'(by omega) = y at *
        have HX := Lib.hid hx
        have HY := Lib.hid hy
        have A2 := Lib.hid ((A1.out.touch ht (by simp)).touch (Tch.refl [] wr).drew (by simp))
        have B2 := Lib.hid ((B1.out.touch ht (by simp)).touch (Tch.refl [] wr).drew (by simp))
        have hjn2 : j < n2 := by omega
        clear ht hx hy e1 e2 e3
        go_wp2_with fail
        refine wp_region_still_lit (by kernel_rfl) (by kernel_rfl) ?_
        still_step; still_step; still_step
        apply ws_load_in secT A2.out HX.out
        · exact rfl
        still_step; still_step; still_step
        apply ws_load_in secT B2.out HY.out
        · exact rfl
        apply ws_neq_arr secT
        · exact rfl
        · exact rfl
        refine wpStill_nil ?_
        go_frame
        by_cases hxy : x = y
        · subst hxy
          rw [decide_eq_true rfl]
          go_wp2_with fail
          go_roundg (n - (j + 1))
          case measure => omega
          case rel =>
            have h1 : l.take j = m.take j := E1.out
            have h2 : l[j]? = some x := HX.out
            have h3 : m[j]? = some x := HY.out
            refine ⟨j + 1, ⟨by omega, by go_num, rfl⟩, ?_, T1.out.trans (Tch.refl _ _).drew⟩
            rw [List.take_add_one, List.take_add_one, h1, h2, h3]
        · rw [decide_eq_false hxy]
          have hd : decide (l = m) = false := by
            rw [decide_eq_false_iff_not]; rintro rfl
            have h2 : l[j]? = some x := HX.out
            have h3 : l[j]? = some y := HY.out
            rw [h2] at h3; exact hxy (by simpa using h3)
          have D1 := Lib.hid hd
          clear hd hxy
          go_wp2_with fail
          go_ret
          rw [D1.out]
          exact ⟨rfl, T1.out.trans (Tch.refl _ _).drew⟩
      · have hd : decide (l = m) = true := by
          have e1 : l.length = n := N1.out
          have e2 : m.length = n2 := N2.out
          have e3 : n = n2 := HL.out
          have h1 : l.take j = m.take j := E1.out
          rw [List.take_of_length_le (by omega), List.take_of_length_le (by omega)] at h1
          simp [h1]
        have D1 := Lib.hid hd
        clear hd ht
        go_wp2_with fail
        go_ret
        rw [D1.out]
        exact ⟨rfl, T1.out⟩
  · have hne : ((l.length : Int) != (m.length : Int)) = true := by simp; omega
    have hd : decide (l = m) = false := by
      rw [decide_eq_false_iff_not]; rintro rfl; exact hlm rfl
    have D1 := Lib.hid hd
    generalize l.length = n at *
    generalize m.length = n2 at *
    clear hd hlm
    go_enter Try.func26, Try.ntmps26
    go_wp2_with fail
    go_ret
    rw [D1.out]
    exact ⟨rfl, Tch.refl _ _⟩

set_option maxHeartbeats 400000 in
theorem clone_any {w : World} {L : Nat} {ls : List Sec} {cap : Nat} {e : TypeId} (hL : w.heap[L]? = some (.cells (secsA ls) e)) (hls : ls ≠ []) (hlim : ls.length ≤ 16384) :
    Calls Try.prog 41 #[.slice (some ⟨L, 0, none⟩) ls.length cap] w fun e w' => Tch [] w w' ∧ ∃ k cap', e = .returned (.slice (some ⟨k, 0, none⟩) ls.length cap') ∧ w.heap.size ≤ k ∧ SecsIn w' k ls := by
  have HL := Lib.hid hL
  have dlt := lt_of_heap hL
  have g1 : (w.alloc (.cells #[] 33)).heap[w.heap.size]? = some (.cells #[] 33) := by rw [heap_alloc, if_pos rfl]
  have g1 := Lib.hid g1
  have g2 := Lib.hid (((Tch.refl [] w).alloc (.cells #[] 33)).heap hL (by simp))
  clear hL
  go_enter Try.func41, Try.ntmps41
  go_wp2_with (first | (rw [Go.Lib.run_eql_slice_nil _ _ _ _ _ _ _ _ uSecs]; go_simp) | ((with_reducible apply wc_clone_arrs secT uSecs (by decide) g1.out g2.out hls (by omega)); exact rfl; exact rfl; exact rfl; exact rfl; intro k cap' w' ht hk hr; go_frame; have HT := Lib.hid ht; have HK := Lib.hid hk; have HR := Lib.hid hr; clear ht hk hr))
  go_ret
  exact ⟨tch_own ((Tch.refl [] w).alloc _) HT.out (by simp), _, _, rfl, HK.out, HR.out⟩

set_option maxHeartbeats 400000 in
theorem sectors_any {w : World} {d L M : Nat} {D : DiskS} (h : DiskAt w d L M D) :
    Calls Try.prog 23 #[.pointer (some ⟨d, 0, none⟩)] w fun e w' => Tch [] w w' ∧ ∃ k cap', e = .returned (.slice (some ⟨k, 0, none⟩) D.lasts.length cap') ∧ w.heap.size ≤ k ∧ SecsIn w' k D.lasts := by
  have c0 := cell_of_row w d 0 _ _ _ h.hd
  simp only [List.getElem?_toArray, List.getElem?_cons_zero] at c0
  have hs := h.ok.size
  have hn : D.lasts ≠ [] := by have := h.ok.some; intro e; rw [e] at this; simp at this
  have HL := Lib.hid h.hL
  clear h
  go_enter Try.func23, Try.ntmps23
  go_wp2_with fail
  refine (clone_any HL.out hn hs).mono ?_
  rintro e w' ⟨ht, k, cap', rfl, hk, hr⟩
  have HT := Lib.hid ht
  have HK := Lib.hid hk
  have HR := Lib.hid hr
  clear ht hk hr
  go_wp2_with fail
  go_ret
  exact ⟨HT.out, _, _, rfl, HK.out, HR.out⟩
end Go.Proofs.Ytpfgjopiddopbaa
