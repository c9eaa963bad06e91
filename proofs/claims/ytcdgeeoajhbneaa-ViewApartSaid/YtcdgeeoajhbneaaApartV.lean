/-
  Two views of which neither's prefix begins with the other's do not see one another: ViewApart's walk.
-/
import Derived.Test.YtcdgeeoajhbneaaDuoV
namespace Go.Proofs.Ytcdgeeoajhbneaa
open Go.RowKit Go.Cib
theorem heap_push (w : World) (o : Obj) : (w.alloc o).heap = w.heap.push o := rfl
/-- A world of one view, made anew. -/
def made17 (w : World) (b : Nat) (p : ByteArray) : World :=
  ((((w.alloc (.cells #[.pointer (some ⟨b, 0, none⟩)] 24)).alloc (.cells #[.slice none 0 0, .slice none 0 0] 44)).alloc
    (.cells #[.pointer (some ⟨w.heap.size + 1, 0, none⟩), .string p] 46)).alloc (.cells #[.pointer (some ⟨w.heap.size + 2, 0, none⟩)] 27)).alloc
    (.cells #[.slice (some ⟨w.heap.size, 0, none⟩) 1 1, .slice (some ⟨w.heap.size + 3, 0, none⟩) 1 1] 31)
theorem made17_tch (w : World) (b : Nat) (p : ByteArray) : Tch [] w (made17 w b p) := (((((Tch.refl _ _).alloc _).alloc _).alloc _).alloc _).alloc _
theorem made17_size (w : World) (b : Nat) (p : ByteArray) : (made17 w b p).heap.size = w.heap.size + 5 := by simp [made17]
theorem made17_world {w0 w : World} {b X M : Nat} {p : ByteArray} (hp : p.size ≤ 100) (hv : ViewAt w b X p) (hM : MemAt w X M []) (hs : w0.heap.size ≤ w.heap.size) (nM : w0.heap.size ≤ M) :
    World17 (made17 w b p) (w.heap.size + 4) X M (w.heap.size + 1) (.slice (some ⟨w.heap.size, 0, none⟩) 1 1) (.slice (some ⟨w.heap.size + 3, 0, none⟩) 1 1) (.slice none 0 0) (.slice none 0 0) [b] [w.heap.size + 2] [p] [] [] 0 ∧
      ∀ k ∈ own17 (w.heap.size + 4) M (w.heap.size + 1) (.slice (some ⟨w.heap.size, 0, none⟩) 1 1) (.slice (some ⟨w.heap.size + 3, 0, none⟩) 1 1) (.slice none 0 0) (.slice none 0 0), w0.heap.size ≤ k := by
  refine begun17 (w := w0) (b := b) (c := w.heap.size + 2) ?_ ?_ ?_ p hp (hv.touch (made17_tch w b p) (by simp)) ?_ (hM.old (made17_tch w b p)) ⟨?_, ownVals_nil _ _ _, ownVals_nil _ _ _, by simp [Value.ownBlock], List.Pairwise.nil, by simp⟩ (by omega) (by omega) (by omega) nM (by omega)
  all_goals (try unfold RViewAt); simp only [made17, heap_push, Array.getElem?_push, Array.size_push, ptr]
  all_goals repeat (first | rfl | rw [if_neg (by omega)] | rw [if_pos (by omega)])
theorem duo17_made {w0 w : World} {b c X M : Nat} {one two : ByteArray} (h1 : one.size ≤ 50) (h2 : two.size ≤ 50) (hv : ViewAt w b X one) (hv2 : ViewAt w c X two) (hM : MemAt w X M []) (ht : Tch [] w0 w) (nM : w0.heap.size ≤ M) :
    Duo17 w0 (made17 (made17 w b one) c two) X M (w.heap.size + 4) (w.heap.size + 1) (w.heap.size + 9) (w.heap.size + 6) one two 0 := by
  obtain ⟨p1, p2⟩ := made17_world (w0 := w0) (by omega) hv hM ht.size nM
  have t1 := made17_tch w b one
  have s1 := made17_size w b one
  obtain ⟨q1, q2⟩ := made17_world (w0 := w0) (w := made17 w b one) (by omega) (hv2.touch t1 (by simp)) (hM.old t1) (by have := ht.size; omega) nM
  have t2 := made17_tch (made17 w b one) c two
  rw [s1] at q1 q2
  refine ⟨_, _, _, _, _, _, _, _, _, _, _, _, _, _, _, _, _, p1.old t2, q1, (ht.trans t1).trans t2, p2, q2, ?_, by simp [begins_iff], by simp [begins_iff]⟩
  intro k k1 k2
  unfold own17 at k1 k2
  simp [Value.ownBlock] at k1 k2
  omega
set_option maxRecDepth 20000 in
set_option maxHeartbeats 4000000 in
theorem viewApart_any (w : World) (one : ByteArray) (_l1 : one.size ≤ 9223372036854775807) (two : ByteArray) (_l2 : two.size ≤ 9223372036854775807) (a : Option Addr) (cap : Nat) (os : List OpV17) (ho : Ops17At w a os) (hl : os.length ≤ 9223372036854775807) (hf : ∀ o ∈ os, o.Fits) :
    Calls Try.prog 4 #[.string one, .string two, .slice a os.length cap] w fun e w' => e = .returned (.bool true) ∧ Tch [] w w' := by
  have HO := Lib.hid ho
  have HF := Lib.hid hf
  have HLEN := Lib.hid hl
  clear ho hf
  generalize hm : os.length = m at *
  have HM := Lib.hid hm
  clear hm
  have CB : Hid (∀ (s p : ByteArray) (W : World), Calls Try.prog 10 #[.string s, .string p] W fun e w' => e = .returned (.bool (begins s p)) ∧ W = w') := fun s p W => begins_any W s p
  by_cases s1 : 50 < one.size
  · go_enter Try.func4, Try.ntmps4
    go_wp2_with (go_at_call 9; refine (works17_any _).mono ?_; rintro e w7 ⟨rfl, hq1⟩; have HR := Lib.hid hq1; clear hq1)
    go_ret
    exact ⟨rfl, HR.out⟩
  by_cases s2 : 50 < two.size
  · go_enter Try.func4, Try.ntmps4
    go_wp2_with (go_at_call 9; refine (works17_any _).mono ?_; rintro e w7 ⟨rfl, hq1⟩; have HR := Lib.hid hq1; clear hq1)
    go_ret
    exact ⟨rfl, HR.out⟩
  cases b1 : begins one two with
  | true =>
    have CB1 := Lib.hid (CB.out one two)
    rw [b1] at CB1
    clear CB b1
    go_enter Try.func4, Try.ntmps4
    go_wp2_with (first | (go_at_call 10; refine (CB1.out _).mono ?_; rintro e w7 ⟨rfl, rfl⟩; clear CB1) | (go_at_call 9; refine (works17_any _).mono ?_; rintro e w7 ⟨rfl, hq1⟩; have HR := Lib.hid hq1; clear hq1))
    go_ret
    exact ⟨rfl, HR.out⟩
  | false =>
  have CB1 := Lib.hid (CB.out one two)
  rw [b1] at CB1
  cases b2 : begins two one with
  | true =>
    have CB2 := Lib.hid (CB.out two one)
    rw [b2] at CB2
    clear CB b1 b2
    go_enter Try.func4, Try.ntmps4
    go_wp2_with (first | (go_at_call 10; have X' := CB1; clear X'; refine (CB1.out _).mono ?_; rintro e w7 ⟨rfl, rfl⟩; clear CB1) | (go_at_call 10; refine (CB2.out _).mono ?_; rintro e w7 ⟨rfl, rfl⟩; clear CB2) | (go_at_call 9; refine (works17_any _).mono ?_; rintro e w7 ⟨rfl, hq1⟩; have HR := Lib.hid hq1; clear hq1))
    go_ret
    exact ⟨rfl, HR.out⟩
  | false =>
  have CB2 := Lib.hid (CB.out two one)
  rw [b2] at CB2
  have N1 := Lib.hid b1
  have N2 := Lib.hid b2
  clear CB b1 b2
  have C1 : Hid (∀ W b X, ViewAt W b X ByteArray.empty → Calls Try.prog 11 #[.pointer (some ⟨b, 0, none⟩), .string one] W fun e w' => ∃ x, e = .returned (.tuple #[.pointer (some ⟨x, 0, none⟩), .int .i64 0]) ∧ Tch [] W w' ∧ ViewAt w' x X one ∧ W.heap.size ≤ x) := fun W b X h => (vsub_any h (by decide) one (by omega)).mono fun e w' ⟨h1, h2⟩ => h2.elim (fun h => absurd h.1 (by simp; omega)) fun ⟨_, g, e1, h3, h4⟩ => ⟨g, e1, h1, by rw [ByteArray.empty_append] at h3; exact h3, h4⟩
  have C2 : Hid (∀ W b X, ViewAt W b X ByteArray.empty → Calls Try.prog 11 #[.pointer (some ⟨b, 0, none⟩), .string two] W fun e w' => ∃ x, e = .returned (.tuple #[.pointer (some ⟨x, 0, none⟩), .int .i64 0]) ∧ Tch [] W w' ∧ ViewAt w' x X two ∧ W.heap.size ≤ x) := fun W b X h => (vsub_any h (by decide) two (by omega)).mono fun e w' ⟨h1, h2⟩ => h2.elim (fun h => absurd h.1 (by simp; omega)) fun ⟨_, g, e1, h3, h4⟩ => ⟨g, e1, h1, by rw [ByteArray.empty_append] at h3; exact h3, h4⟩
  go_enter Try.func4, Try.ntmps4
  go_upto_block 0 with (first
    | (go_at_call 10; have X' := CB1; clear X'; refine (CB1.out _).mono ?_; rintro e w7 ⟨rfl, rfl⟩; clear CB1) | (go_at_call 10; refine (CB2.out _).mono ?_; rintro e w7 ⟨rfl, rfl⟩; clear CB2)
    | (go_at_call 5; refine (vmem_any _).mono ?_; rintro e w1 ⟨k1, b, X, M, rfl, v1, m1, q1, q2, q3⟩; have HT1 := Lib.hid k1; have HV1 := Lib.hid v1; have HM1 := Lib.hid m1; have HS := Lib.hid q3; clear k1 v1 m1 q1 q2 q3)
    | (go_at_call 11; have X' := C1; clear X'; refine (C1.out _ _ _ HV1.out).mono ?_; rintro e w2 ⟨x, rfl, k2, v2, q2⟩; have HT2 := Lib.hid (HT1.out.trans k2); have HV2 := Lib.hid v2; have HV3 := Lib.hid (HV1.out.touch k2 (by simp)); have HM2 := Lib.hid (HM1.out.old k2); clear k2 v2 q2 C1)
    | (go_at_call 11; refine (C2.out _ _ _ HV3.out).mono ?_; rintro e w3 ⟨y, rfl, k2, v2, q2⟩; have HT3 := Lib.hid (HT2.out.trans k2); have HV4 := Lib.hid v2; have HV5 := Lib.hid (HV2.out.touch k2 (by simp)); have HM3 := Lib.hid (HM2.out.old k2); clear k2 v2 q2 C2))
  have hp0 := duo17_made (one := one) (two := two) (by omega) (by omega) HV5.out HV4.out HM3.out HT3.out HS.out
  simp only [made17, World.size_alloc] at hp0
  have HP0 := Lib.hid hp0
  clear hp0 HV1 HV2 HV3 HV4 HV5 HM1 HM2 HM3 HT1 HT2 HT3 HS
  generalize w3.heap.size = n3 at *
  go_cut [14] from 83 to 110 (fun _ wx => ∃ j, j ≤ 100 ∧ Duo17 w wx X M (n3 + 1 + 1 + 1 + 1) (n3 + 1) (n3 + 1 + 1 + 1 + 1 + 1 + 1 + 1 + 1 + 1) (n3 + 1 + 1 + 1 + 1 + 1 + 1) one two j)
  case first =>
    go_wp2_with fail
    go_loopg [14] 100 (fun q i wr => ∃ j, OnAt 100 i q j ∧ Duo17 w wr X M (n3 + 1 + 1 + 1 + 1) (n3 + 1) (n3 + 1 + 1 + 1 + 1 + 1 + 1 + 1 + 1 + 1) (n3 + 1 + 1 + 1 + 1 + 1 + 1) one two j)
    case atStart => exact ⟨0, ⟨Nat.zero_le _, rfl, rfl⟩, HP0.out⟩
    case round =>
      obtain ⟨j, ⟨hj, rfl, rfl⟩, hP⟩ := hrel
      clear HP0
      have HP := Lib.hid hP
      clear hP
      by_cases hj1 : j < m
      · by_cases hj2 : j < 100
        · have hlen' : os.length = m := HM.out
          have hx : os[j]? = some (os[j]'(by omega)) := List.getElem?_eq_getElem _
          obtain ⟨kb, ko, rfl, k0, k1, k2, k3, k4⟩ := HO.out j _ hx
          have hfo := HF.out _ (List.mem_of_getElem? hx)
          generalize os[j]'(by omega) = o at *
          have ht := HP.out.tch
          have d0 := cell_old ht k0
          have d1 := cell_old ht k1
          have d2 := cell_old ht k2
          have d3 := cell_old ht k3
          have d4 := cell_old ht k4
          clear ht k0 k1 k2 k3 k4 hlen' hx
          by_cases h6 : o.what = 6
          · have h6' : o.what = 6 := h6
            go_wp2_with fail
            go_roundg (100 - (j + 1))
            case measure => omega
            case rel => exact ⟨j + 1, ⟨by omega, rfl, rfl⟩, (HP.out.old ((Tch.refl _ _).alloc _)).more (Nat.le_succ j)⟩
          · have CD : Hid (∀ W', Tch [] wr W' → Calls Try.prog 7 #[.pointer (some ⟨n3 + 1 + 1 + 1 + 1, 0, none⟩), .agg #[.int .i64 o.what, .int .i64 o.at_, .int .i64 o.n, .string o.key, .string o.val]] W' fun e w' => e = .returned (.bool true) ∧ Duo17 w w' X M (n3 + 1 + 1 + 1 + 1) (n3 + 1) (n3 + 1 + 1 + 1 + 1 + 1 + 1 + 1 + 1 + 1) (n3 + 1 + 1 + 1 + 1 + 1 + 1) one two (j + 1)) := fun W' ht => (HP.out.old ht).does N1.out N2.out (by omega) o hfo h6
            have CE : Hid (∀ W', Tch [] wr W' → Calls Try.prog 7 #[.pointer (some ⟨n3 + 1 + 1 + 1 + 1 + 1 + 1 + 1 + 1 + 1, 0, none⟩), .agg #[.int .i64 o.what, .int .i64 o.at_, .int .i64 o.n, .string o.key, .string o.val]] W' fun e w' => e = .returned (.bool true) ∧ Duo17 w w' X M (n3 + 1 + 1 + 1 + 1) (n3 + 1) (n3 + 1 + 1 + 1 + 1 + 1 + 1 + 1 + 1 + 1) (n3 + 1 + 1 + 1 + 1 + 1 + 1) one two (j + 1)) := fun W' ht => ((HP.out.old ht).swap.does N2.out N1.out (by omega) o hfo h6).mono fun e w' ⟨h1, h2⟩ => ⟨h1, h2.swap⟩
            by_cases he : j % 2 = 0
            · have he' : (j : Int) % 2 = 0 := by omega
              go_wp2_with (go_at_call 7; refine (CD.out _ ((Tch.refl _ _).alloc _)).mono ?_; rintro e w5 ⟨rfl, hq1⟩; have HQ := Lib.hid hq1; clear hq1 CD)
              go_roundg (100 - (j + 1))
              case measure => omega
              case rel => exact ⟨j + 1, ⟨by omega, by go_num, rfl⟩, HQ.out⟩
            · have he' : ¬ (j : Int) % 2 = 0 := by omega
              go_wp2_with (go_at_call 7; refine (CE.out _ ((Tch.refl _ _).alloc _)).mono ?_; rintro e w5 ⟨rfl, hq1⟩; have HQ := Lib.hid hq1; clear hq1 CE)
              go_roundg (100 - (j + 1))
              case measure => omega
              case rel => exact ⟨j + 1, ⟨by omega, by go_num, rfl⟩, HQ.out⟩
        · go_wp2_with fail
          go_meet
          exact ⟨_, hj, HP.out⟩
      · go_wp2_with fail
        go_meet
        exact ⟨_, hj, HP.out⟩
  case rest =>
  obtain ⟨j, hj, hP⟩ := hcut
  have HP := Lib.hid hP
  clear hP HP0
  go_wp2_with (first
    | (go_at_call 8; refine (HP.out.holds (by omega)).mono ?_; rintro e w5 ⟨rfl, hq1⟩; have HQ := Lib.hid (HP.out.old hq1); clear hq1 HP)
    | (go_at_call 8; refine (HQ.out.swap.holds (by omega)).mono ?_; rintro e w6 ⟨rfl, hq1⟩; have HQ2 := Lib.hid (HQ.out.old hq1); clear hq1 HQ)
    | (go_at_call 9; refine (works17_any _).mono ?_; rintro e w7 ⟨rfl, hq1⟩; have HR := Lib.hid (HQ2.out.tch.trans hq1); clear hq1))
  go_ret
  exact ⟨rfl, HR.out⟩
end Go.Proofs.Ytcdgeeoajhbneaa
