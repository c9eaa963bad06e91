/-
  Lists of numbers: the document's Pending, EqInts.
-/
import Derived.Test.YthbaipljlbddcaaLists
namespace Go.Proofs.Ythbaipljlbddcaa
open Go.RowKit Go.Cib

/-- The pending numbers below j. -/
def pendTo (D : DiskS) (j : Nat) : List Int := ((List.range j).map (fun (i : Nat) => (i : Int))).filter fun i => (D.waits i).isSome
theorem pendTo_succ (D : DiskS) (j : Nat) : pendTo D (j + 1) = if (D.waits (j : Int)).isSome = true then pendTo D j ++ [(j : Int)] else pendTo D j := by
  unfold pendTo
  rw [List.range_succ, List.map_append, List.filter_append]
  by_cases h : (D.waits (j : Int)).isSome = true
  · rw [if_pos h]; simp [h]
  · rw [if_neg h]; simp [h]
theorem pendTo_len (D : DiskS) (j : Nat) : (pendTo D j).length ≤ j := by
  unfold pendTo
  exact Nat.le_trans (List.length_filter_le _ _) (by simp)

set_option maxRecDepth 20000 in
set_option maxHeartbeats 1000000 in
theorem eqInts_any {w : World} {a b : Option Addr} {ca cb : Nat} {l m : List Int} (ha : IntsAt w a l) (hb : IntsAt w b m) (hl : l.length ≤ 9223372036854775807) (hm : m.length ≤ 9223372036854775807) :
    Calls Try.prog 34 #[.slice a l.length ca, .slice b m.length cb] w fun e w' => e = .returned (.bool (decide (l = m))) ∧ Tch [] w w' := by
  have A1 := Lib.hid ha
  have B1 := Lib.hid hb
  clear ha hb
  by_cases hlm : l.length = m.length
  · have HL := Lib.hid hlm
    have hne : ((l.length : Int) != (m.length : Int)) = false := by simp; omega
    generalize hn1 : l.length = n at *
    generalize hn2 : m.length = n2 at *
    have N1 := Lib.hid hn1
    have N2 := Lib.hid hn2
    clear hn1 hn2 hlm
    go_enter Try.func34, Try.ntmps34
    go_wp2_with fail
    go_loopg [5] n (fun k i wr => ∃ j, OnAt n i k j ∧ l.take j = m.take j ∧ Tch [] w wr)
    case atStart => exact ⟨0, ⟨Nat.zero_le _, rfl, rfl⟩, rfl, Tch.refl _ _⟩
    case round =>
      obtain ⟨j, ⟨hj, rfl, rfl⟩, he, ht⟩ := hrel
      have E1 := Lib.hid he
      have T1 := Lib.hid ht
      clear he
      by_cases hjn : j < n
      · have e1 : l.length = n := N1.out
        have e2 : m.length = n2 := N2.out
        have e3 : n = n2 := HL.out
        have hx : l[j]? = some (l[j]'(by omega)) := List.getElem?_eq_getElem _
        have hy : m[j]? = some (m[j]'(by omega)) := List.getElem?_eq_getElem _
        obtain ⟨ba, oa, rfl, hca⟩ := A1.out j _ hx
        obtain ⟨bb, ob, rfl, hcb⟩ := B1.out j _ hy
        have hca' := cell_old (ht.trans (Tch.refl _ _).drew) hca
        have hcb' := cell_old (ht.trans (Tch.refl _ _).drew) hcb
        generalize l[j]'(by omega) = x at *
        generalize m[j]'(by omega) = y at *
        have HX := Lib.hid hx
        have HY := Lib.hid hy
        have hjn2 : j < n2 := by omega
        clear hca hcb ht hx hy e1 e2 e3
        go_wp2_with fail
        refine wp_region_still_lit (by kernel_rfl) (by kernel_rfl) ?_
        still_step; still_step; still_step; still_step; still_step; still_step; still_step; still_step; still_step
        refine wpStill_nil ?_
        by_cases hxy : x = y
        · subst hxy
          have hxx : (x != x) = false := by simp
          go_wp2_with fail
          go_roundg (n - (j + 1))
          case measure => omega
          case rel =>
            have h1 : l.take j = m.take j := E1.out
            have h2 : l[j]? = some x := HX.out
            have h3 : m[j]? = some x := HY.out
            refine ⟨j + 1, ⟨by omega, by go_num, rfl⟩, ?_, T1.out.trans (Tch.refl _ _).drew⟩
            rw [List.take_add_one, List.take_add_one, h1, h2, h3]
        · have hxx : (x != y) = true := by simp [hxy]
          have hd : decide (l = m) = false := by
            rw [decide_eq_false_iff_not]; rintro rfl
            have h2 : l[j]? = some x := HX.out
            have h3 : l[j]? = some y := HY.out
            rw [h2] at h3; exact hxy (by simpa using h3)
          have D1 := Lib.hid hd
          clear hd hxy
          go_wp2_with fail
          go_ret
          rw [D1.out]
          exact ⟨rfl, T1.out.trans (Tch.refl _ _).drew⟩
      · have hd : decide (l = m) = true := by
          have e1 : l.length = n := N1.out
          have e2 : m.length = n2 := N2.out
          have e3 : n = n2 := HL.out
          have h1 : l.take j = m.take j := E1.out
          rw [List.take_of_length_le (by omega), List.take_of_length_le (by omega)] at h1
          simp [h1]
        have D1 := Lib.hid hd
        clear hd ht
        go_wp2_with fail
        go_ret
        rw [D1.out]
        exact ⟨rfl, T1.out⟩
  · have hne : ((l.length : Int) != (m.length : Int)) = true := by simp; omega
    have hd : decide (l = m) = false := by
      rw [decide_eq_false_iff_not]; rintro rfl; exact hlm rfl
    have D1 := Lib.hid hd
    generalize l.length = n at *
    generalize m.length = n2 at *
    clear hd hlm
    go_enter Try.func34, Try.ntmps34
    go_wp2_with fail
    go_ret
    rw [D1.out]
    exact ⟨rfl, Tch.refl _ _⟩
end Go.Proofs.Ythbaipljlbddcaa
