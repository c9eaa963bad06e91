/-
  One op done to both disks, whatever it is; the walk of DiskPlays.
-/
import Derived.Test.YtpfgjopiddopbaaDoes2
import Derived.Test.YtpfgjopiddopbaaKeep
namespace Go.Proofs.Ytpfgjopiddopbaa
open Go.RowKit Go.Cib

theorem does_any {w0 w : World} {d L M r RL RW RH : Nat} {D : DiskS} (h : Both w0 w d L M D r RL RW RH D []) (o : OpV) (ho : OpOk w0 o) (hlen : o.keep.length ≤ 17592186043904) :
    Calls Try.prog 21 #[.pointer (some ⟨d, 0, none⟩), .pointer (some ⟨r, 0, none⟩), o.val] w fun e w' => e = .returned (.bool true) ∧ Both w0 w' d L M (act D o) r RL RW RH (act D o) [] := by
  by_cases h1 : o.what = 1
  · have e : act D o = (D.write o.i o.sec).2 := by unfold act; rw [if_pos h1]
    rw [e]; exact does_1 h o ho h1
  · by_cases h2 : o.what = 2
    · have e : act D o = D.flush.2 := by unfold act; rw [if_neg h1, if_pos h2]
      rw [e]; exact does_2 h o ho h2
    · by_cases h4 : o.what = 4
      · have e : act D o = (D.arm o.i).2 := by unfold act; rw [if_neg h1, if_neg h2, if_pos h4]
        rw [e]; exact does_4 h o ho h4
      · by_cases h5 : o.what = 5
        · have e : act D o = D.off := by unfold act; rw [if_neg h1, if_neg h2, if_neg h4, if_pos h5]
          rw [e]; exact does_5 h o ho h5
        · by_cases h6 : o.what = 6
          · have e : act D o = (D.on o.keep).2 := by unfold act; rw [if_neg h1, if_neg h2, if_neg h4, if_neg h5, if_pos h6]
            rw [e]; exact does_6 h o ho h6 hlen
          · have e : act D o = D := by unfold act; rw [if_neg h1, if_neg h2, if_neg h4, if_neg h5, if_neg h6]
            rw [e]
            by_cases h3 : o.what = 3
            · exact does_3 h o ho h3
            · by_cases h7 : o.what = 7
              · exact does_7 h o h7
              · by_cases h8 : o.what = 8
                · exact does_8 h o h8
                · exact does_0 h o ho (by simpa using h1) (by simpa using h2) (by simpa using h3) (by simpa using h4) (by simpa using h5) (by simpa using h6) (by simpa using h7) (by simpa using h8)

theorem both_of {w w1 w2 : World} {d L M r RL RW RH : Nat} {D : DiskS} (h1 : DiskAt w1 d L M D) (t1 : Tch [] w w1) (n1 : w.heap.size ≤ d) (n2 : w.heap.size ≤ L) (n3 : w.heap.size ≤ M)
    (h2 : RefAt w2 r RL RW RH D) (t2 : Tch [] w1 w2) (m1 : w1.heap.size ≤ r) (m2 : w1.heap.size ≤ RL) (m3 : w1.heap.size ≤ RW) (m4 : w1.heap.size ≤ RH) : Both w w2 d L M D r RL RW RH D [] := by
  have l1 := lt_of_heap h1.hd
  have l2 := lt_of_heap h1.hL
  have l3 := h1.hM.lt
  have l4 := lt_of_heap h2.hr
  have l5 := lt_of_heap h2.hL
  obtain ⟨ws, l6, _⟩ := h2.hW
  have l6 := lt_of_heap l6
  have l7 := lt_of_heap h2.hH
  have sz := t1.size
  have sz2 := t2.size
  refine ⟨h1.far t2 (by simp), h2, ?_, t1.trans t2, ?_, by simp⟩
  · intro x hx hm
    simp at hx hm
    omega
  · intro k hk
    simp at hk
    omega

def opLook : OpV := ⟨8, 0, ByteArray.empty, none, [], 0⟩

set_option maxRecDepth 20000 in
theorem diskPlays_no (w : World) (n : Int) (v : Value) (hn : n < 1 ∨ 16384 < n) :
    Calls Try.prog 4 #[.int .i64 n, v] w fun e w' => e = .returned (.bool true) ∧ Tch [] w w' := by
  have HN := Lib.hid hn
  clear hn
  go_enter Try.func4, Try.ntmps4
  go_wp2_with (first | (go_at_call 10; refine (new_no _ n HN.out).mono ?_; rintro e w' ⟨rfl, rfl⟩) | (go_at_call 20; refine (refNew_no _ n HN.out).mono ?_; rintro e w' ⟨rfl, rfl⟩) | (go_at_call 19; refine (works_any _).mono ?_; rintro e w' ⟨rfl, hq1⟩; have HQ := Lib.hid hq1; clear hq1))
  go_ret
  exact ⟨rfl, HQ.out⟩

set_option maxRecDepth 20000 in
set_option maxHeartbeats 4000000 in
theorem diskPlays_in (w : World) (n : Nat) (hn1 : 1 ≤ n) (hn2 : n ≤ 16384) (a : Option Addr) (cap : Nat) (os : List OpV) (ho : OpsAt w a os) (hk : ∀ o ∈ os, o.keep.length ≤ 17592186043904) :
    Calls Try.prog 4 #[.int .i64 n, .slice a os.length cap] w fun e w' => e = .returned (.bool true) ∧ Tch [] w w' := by
  have HO := Lib.hid ho
  have HK := Lib.hid hk
  clear ho hk
  go_enter Try.func4, Try.ntmps4
  go_wp2_with fail
  refine (new_any w n hn1 hn2).mono ?_
  rintro e w1 ⟨d, L, M, rfl, h1, t1, n1, n2, n3⟩
  have H1 := Lib.hid h1
  have T1 := Lib.hid t1
  clear h1 t1
  go_wp2_with fail
  refine (refNew_any w1 n hn1 hn2).mono ?_
  rintro e w2 ⟨r, RL, RW, RH, rfl, h2, t2, m1, m2, m3, m4⟩
  have hb := both_of H1.out T1.out n1 n2 n3 h2 t2 m1 m2 m3 m4
  have HB := Lib.hid hb
  clear hb h2 t2 m1 m2 m3 m4 n1 n2 n3 H1 T1
  generalize hm : os.length = m at *
  have HN := Lib.hid hm
  clear hm
  go_upto_block 0 with fail
  go_cut [9] from 33 to 50 (fun _ wx => ∃ D, Both w wx d L M D r RL RW RH D [])
  case first =>
    go_wp2_with fail
    go_loopg [9] 300 (fun q i wr => ∃ j, OnAt 300 i q j ∧ ∃ D, Both w wr d L M D r RL RW RH D [])
    case atStart => exact ⟨0, ⟨Nat.zero_le _, rfl, rfl⟩, _, HB.out⟩
    case round =>
      obtain ⟨j, ⟨hj, rfl, rfl⟩, D, hP⟩ := hrel
      clear HB
      have HB := Lib.hid hP
      clear hP
      by_cases hj1 : j < m
      · by_cases hj2 : j < 300
        · have hlen' : os.length = m := HN.out
          have hx : os[j]? = some (os[j]'(by omega)) := List.getElem?_eq_getElem _
          obtain ⟨kb, ko, rfl, hop⟩ := HO.out j _ hx
          have hkl := HK.out _ (List.mem_of_getElem? hx)
          generalize os[j]'(by omega) = o at *
          have hop' := hop.later HB.out.bx.tch
          have c0 := hop'.c0
          have c1 := hop'.c1
          have c2 := hop'.c2
          have c3 := hop'.c3
          have HOP := Lib.hid hop.ok
          have HKL := Lib.hid hkl
          clear hop hop' hx hlen' hkl
          go_wp2_with (go_at_call 21; refine (does_any HB.out o HOP.out HKL.out).mono ?_; rintro e w5 ⟨rfl, hq1⟩; have HQ := Lib.hid hq1; clear hq1)
          go_roundg (300 - (j + 1))
          case measure => omega
          case rel => exact ⟨j + 1, ⟨by omega, by go_num, rfl⟩, _, HQ.out⟩
        · go_wp2_with fail
          go_meet
          exact ⟨_, HB.out⟩
      · go_wp2_with fail
        go_meet
        exact ⟨_, HB.out⟩
  case rest =>
  obtain ⟨D, hP⟩ := hcut
  clear HB
  have HB := Lib.hid hP
  clear hP
  go_wp2_with (first | (go_at_call 21; refine (does_7 HB.out opAsk rfl).mono ?_; rintro e w5 ⟨rfl, hq1⟩; have HQ := Lib.hid hq1; clear hq1 HB) | (go_at_call 21; refine (does_8 HQ.out opLook rfl).mono ?_; rintro e w5 ⟨rfl, hq1⟩; have HR := Lib.hid hq1; clear hq1 HQ) | (go_at_call 19; refine (works_any _).mono ?_; rintro e w7 ⟨rfl, hq1⟩; have HWK := Lib.hid (HR.out.same hq1); clear hq1))
  go_ret
  exact ⟨rfl, HWK.out.bx.tch⟩

theorem diskPlays_any (w : World) (n : Int) (_lo : -9223372036854775808 ≤ n) (_hi : n ≤ 9223372036854775807) (a : Option Addr) (cap : Nat) (os : List OpV) (ho : OpsAt w a os) (_h1 : os.length ≤ 9223372036854775807) (hk : ∀ o ∈ os, o.keep.length ≤ 17592186043904) :
    Calls Try.prog 4 #[.int .i64 n, .slice a os.length cap] w fun e w' => e = .returned (.bool true) ∧ Tch [] w w' := by
  by_cases h2 : n < 1 ∨ 16384 < n
  · exact diskPlays_no w n _ h2
  · obtain ⟨k, rfl⟩ := Int.eq_ofNat_of_zero_le (show 0 ≤ n by omega)
    exact diskPlays_in w k (by omega) (by omega) a cap os ho hk
end Go.Proofs.Ytpfgjopiddopbaa
