/-
  A disk holds what it is loaded of: the walk of DiskLoads.
-/
import Derived.Test.YtpfgjopiddopbaaLoads
namespace Go.Proofs.Ytpfgjopiddopbaa
open Go.RowKit Go.Cib

def TextsAt (w : World) (a : Option Addr) (ts : List ByteArray) : Prop := ∀ j s, ts[j]? = some s → ∃ b o, a = some ⟨b, o, none⟩ ∧ w.cell? ⟨b, o + j, none⟩ = some (.string s)
theorem TextsAt.later {w w' : World} {a : Option Addr} {ts : List ByteArray} (h : TextsAt w a ts) (ht : Tch [] w w') : TextsAt w' a ts := by
  intro j s hj
  obtain ⟨b, o, e, hc⟩ := h j s hj
  exact ⟨b, o, e, cell_old ht hc⟩
def secOf (s : ByteArray) : Sec := Arr.text s.data.toList
theorem textS_any (s : ByteArray) (h : s.size ≤ 9223372036854775807) (W : World) : Calls Try.prog 13 #[.string s] W fun e w' => e = .returned (.agg (secA (secOf s))) ∧ Tch [] W w' := text_any s W h

theorem Both.side {w0 w w' : World} {d L M r RL RW RH : Nat} {D : DiskS} (h : Both w0 w d L M D r RL RW RH D []) {k : Nat} (hk : k ∉ [d, L, M, r, RL, RW, RH]) (h0 : w0.heap.size ≤ k) (ht : Tch [k] w w') : Both w0 w' d L M D r RL RW RH D [] := by
  simp only [List.mem_cons, List.not_mem_nil, or_false, not_or] at hk
  obtain ⟨k1, k2, k3, k4, k5, k6, k7⟩ := hk
  refine ⟨h.dk.touch ht (by simpa using Ne.symm k1) (by simpa using Ne.symm k2) (by simpa using Ne.symm k3), h.rf.touch ht (by simpa using Ne.symm k4) (by simpa using Ne.symm k5) (by simpa using Ne.symm k6) (by simpa using Ne.symm k7), h.sep, tch_own h.bx.tch ht (by simpa using h0), fun x hx => ⟨(h.bx.own x hx).1, Nat.lt_of_lt_of_le (h.bx.own x hx).2 ht.size⟩, by simp⟩

set_option maxRecDepth 20000 in
theorem diskLoads_big (w : World) (a : Option Addr) (cap m : Nat) (v : Value) (hm : 300 < m) :
    Calls Try.prog 9 #[.slice a m cap, v] w fun e w' => e = .returned (.bool true) ∧ Tch [] w w' := by
  go_enter Try.func9, Try.ntmps9
  go_wp2_with (go_at_call 19; refine (works_any _).mono ?_; rintro e w' ⟨rfl, hq1⟩; have HQ := Lib.hid hq1; clear hq1)
  go_ret
  exact ⟨rfl, HQ.out⟩

set_option maxRecDepth 20000 in
theorem diskLoads_none (w : World) (a : Option Addr) (cap : Nat) (v : Value) :
    Calls Try.prog 9 #[.slice a 0 cap, v] w fun e w' => e = .returned (.bool true) ∧ Tch [] w w' := by
  go_enter Try.func9, Try.ntmps9
  go_wp2_with fail
  go_loopg [5, 6] 0 (fun q l i wr => q = 0 ∧ l = .slice none 0 0 ∧ i = .int .i64 0 ∧ w = wr)
  case atStart => exact ⟨rfl, rfl, rfl, rfl⟩
  case round =>
    obtain ⟨rfl, rfl, rfl, rfl⟩ := hrel
    go_wp2_with (first | (go_at_call 29; refine (load_no _).mono ?_; rintro e w' ⟨rfl, rfl⟩) | (go_at_call 30; refine (refLoad_no _).mono ?_; rintro e w' ⟨rfl, rfl⟩) | (go_at_call 19; refine (works_any _).mono ?_; rintro e w' ⟨rfl, hq1⟩; have HQ := Lib.hid hq1; clear hq1))
    go_ret
    exact ⟨rfl, HQ.out⟩

set_option maxRecDepth 20000 in
set_option maxHeartbeats 4000000 in
theorem diskLoads_in (w : World) (ta : Option Addr) (tcap : Nat) (ts : List ByteArray) (ht : TextsAt w ta ts) (hts : ∀ s ∈ ts, s.size ≤ 9223372036854775807) (ht1 : 1 ≤ ts.length) (ht2 : ts.length ≤ 300)
    (a : Option Addr) (cap : Nat) (os : List OpV) (ho : OpsAt w a os) (hk : ∀ o ∈ os, o.keep.length ≤ 17592186043904) :
    Calls Try.prog 9 #[.slice ta ts.length tcap, .slice a os.length cap] w fun e w' => e = .returned (.bool true) ∧ Tch [] w w' := by
  have HO := Lib.hid ho
  have HK := Lib.hid hk
  have HT := Lib.hid ht
  have HTS := Lib.hid hts
  clear ho hk ht hts
  generalize hm : os.length = m at *
  have HN := Lib.hid hm
  clear hm
  generalize hm : ts.length = n at *
  have HTN := Lib.hid hm
  clear hm
  go_enter Try.func9, Try.ntmps9
  go_upto_block 0 with fail
  go_cut [5, 6] from 19 to 32 (fun l _ wx => Tch [] w wx ∧ ∃ b c, l = .slice (some ⟨b, 0, none⟩) n c ∧ w.heap.size ≤ b ∧ SecsIn wx b (ts.map secOf))
  case first =>
    go_wp2_with fail
    go_loopg [5, 6] n (fun q l i wr => ∃ j, OnAt n i q j ∧ Tch [] w wr ∧ OwnArrs wr w.heap.size 33 l ((ts.take j).map secOf))
    case atStart => exact ⟨0, ⟨Nat.zero_le _, rfl, rfl⟩, Tch.refl _ _, ownArrs_nil _ _ _⟩
    case round =>
      obtain ⟨j, ⟨hj, rfl, rfl⟩, hT, hO⟩ := hrel
      rename_i l
      have T1 := Lib.hid hT
      have O1 := Lib.hid hO
      clear hT hO
      by_cases hjn : j < n
      · have htl : j < ts.length := by have := HTN.out; omega
        have hx : ts[j]? = some (ts[j]'htl) := List.getElem?_eq_getElem _
        generalize ts[j]'htl = s at *
        obtain ⟨b, o, rfl, hc⟩ := (HT.out.later T1.out) j _ hx
        have hss := HTS.out s (List.mem_of_getElem? hx)
        have HX := Lib.hid hx
        have HSS := Lib.hid hss
        have hlen : Hid (((ts.take j).map secOf).length + 1 ≤ 301) := by
          show _ ≤ _
          rw [List.length_map, List.length_take]; omega
        clear hx hss
        go_wp2_with fail
        refine (textS_any s HSS.out _).mono ?_
        rintro e w5 ⟨rfl, hq1⟩
        have T5 := Lib.hid (T1.out.trans hq1)
        have O5 := Lib.hid (O1.out.kept hq1 (by simp))
        clear hq1
        go_wp2_with (first | ((with_reducible refine wc_slice_one secT (by decide) (by decide) uSecs (s := secOf s) ?_ ?_); exact rfl; go_frame) | (at_builtin; (with_reducible refine wc_append_arr (x := .tmp 25) (y := .tmp 31) (g := w5.heap.size) secT (by decide) uSecs (O5.out.kept ((Tch.refl [] _).alloc _) (by simp)) (by have := T5.out.size; simp; omega) (by have := hlen.out; omega) (s := secOf s) (e := 33) rfl rfl ?_ ?_ ?_ ?_); exact rfl; exact rfl; exact heap_alloc_new _ _; intro v6 w6 ho6 ht6; go_frame; have HO6 := Lib.hid ho6; have HT6 := Lib.hid ht6; clear ho6 ht6))
        go_roundg (n - (j + 1))
        case measure => omega
        case rel =>
          have e1 : (ts.take (j + 1)).map secOf = (ts.take j).map secOf ++ [secOf s] := by
            have hx : ts[j]? = some s := HX.out
            rw [List.take_add_one, hx]; simp
          refine ⟨j + 1, ⟨by omega, by go_num, rfl⟩, ?_, by rw [e1]; exact HO6.out⟩
          exact tch_own (T5.out.alloc _) HT6.out (fun k hk => (O5.out.lt k hk).1)
      · go_wp2_with fail
        go_meet
        have e1 : ts.length = n := HTN.out
        have hO := O1.out
        rw [List.take_of_length_le (by omega)] at hO
        rcases hO.shape with ⟨_, h0⟩ | ⟨g, c, rfl, hg, hs⟩
        · have h3 := congrArg List.length h0
          rw [List.length_map] at h3
          have h4 : ts.length = 0 := h3
          omega
        · refine ⟨T1.out, g, c, ?_, hg, hs⟩
          rw [List.length_map, e1]
  case rest =>
  obtain ⟨hT, b, c, rfl, hb, hs⟩ := hcut
  have hl : (ts.map secOf).length = n := by rw [List.length_map]; exact HTN.out
  generalize ts.map secOf = ls at *
  have HL := Lib.hid hl
  have T1 := Lib.hid hT
  have S1 := Lib.hid hs
  have blt : b < wc.heap.size := by obtain ⟨cur, e, g, _⟩ := hs; exact lt_of_heap g
  have CL : Hid (∀ W, SecsIn W b ls → Calls Try.prog 29 #[.slice (some ⟨b, 0, none⟩) n c] W fun e w' => ∃ d L M, e = .returned (.tuple #[.pointer (some ⟨d, 0, none⟩), .int .i64 0]) ∧
      DiskAt w' d L M (loaded ls) ∧ Tch [] W w' ∧ W.heap.size ≤ d ∧ W.heap.size ≤ L ∧ W.heap.size ≤ M) := fun W h => by
    have := load_any (cap := c) h (by omega) (by omega)
    rw [hl] at this; exact this
  have CR : Hid (∀ W, SecsIn W b ls → Calls Try.prog 30 #[.slice (some ⟨b, 0, none⟩) n c] W (RefLoaded W ls)) := fun W h => by
    have := refLoad_any (cap := c) h (by omega) (by omega)
    rw [hl] at this; exact this
  clear hT hs hl
  go_wp2_with fail
  refine (CL.out _ S1.out).mono ?_
  rintro e w1 ⟨d, L, M, rfl, h1, t1, n1, n2, n3⟩
  have H1 := Lib.hid h1
  have S2 := Lib.hid (S1.out.touch t1 (by simp))
  have T2 := Lib.hid t1
  clear h1 t1 S1
  go_wp2_with fail
  refine (CR.out _ S2.out).mono ?_
  rintro e w2 ⟨r, RL, RW, RH, rfl, h2, t2, m1, m2, m3, m4⟩
  have sz1 := T1.out.size
  have sz2 := T2.out.size
  have hboth := both_of H1.out (T1.out.trans T2.out) (by omega) (by omega) (by omega) h2 t2 m1 m2 m3 m4
  have hbn : b ∉ [d, L, M, r, RL, RW, RH] := by simp; omega
  have HB := Lib.hid hboth
  have S3 := Lib.hid (S2.out.touch t2 (by simp))
  have HBN := Lib.hid hbn
  clear h2 t2 m1 m2 m3 m4 n1 n2 n3 hboth hbn H1 S2 T2 sz1 sz2 CL CR T1 blt
  have over : ∀ (s : ByteArray), s.size ≤ 9223372036854775807 → ∀ W, Calls Try.prog 13 #[.string s] W fun e w' => e = .returned (.agg (secA (secOf s))) ∧ Tch [] W w' := fun s h W => text_any s W h
  have OV := Lib.hid over
  clear over
  go_upto_block 2 with fail
  go_cut [11] from 56 to 65 (fun _ wx => Both w wx d L M (loaded ls) r RL RW RH (loaded ls) [])
  case first =>
    go_wp2_with fail
    go_loopg [11] n (fun q i wr => ∃ j, OnAt n i q j ∧ Both w wr d L M (loaded ls) r RL RW RH (loaded ls) [] ∧ ∃ ls', SecsIn wr b ls' ∧ ls'.length = n)
    case atStart => exact ⟨0, ⟨Nat.zero_le _, rfl, rfl⟩, HB.out, _, S3.out, HL.out⟩
    case round =>
      obtain ⟨j, ⟨hj, rfl, rfl⟩, hP, ls', hS, hl⟩ := hrel
      clear HB S3
      have HB := Lib.hid hP
      have S3 := Lib.hid hS
      have hjl : j < n → j < ls'.length := by omega
      have HL2 := Lib.hid hl
      clear hP hS hl
      by_cases hjn : j < n
      · have hjl := hjl hjn
        go_wp2_with (first | (go_at_call 13; refine (OV.out _ (by decide) _).mono ?_; rintro e w5 ⟨rfl, hq1⟩; have HB5 := Lib.hid (HB.out.same hq1); have S5 := Lib.hid (S3.out.touch hq1 (by simp)); clear hq1) | ((with_reducible apply wc_store_in secT S5.out hjl); exact rfl; exact rfl; intro w6 hs6 ht6; go_frame; have HB6 := Lib.hid (HB5.out.side HBN.out hb ht6); have S6 := Lib.hid hs6; clear hs6 ht6))
        go_roundg (n - (j + 1))
        case measure => omega
        case rel => exact ⟨j + 1, ⟨by omega, by go_num, rfl⟩, HB6.out, _, S6.out, by simpa using HL2.out⟩
      · go_wp2_with fail
        go_meet
        exact HB.out
  case rest =>
  clear HB S3
  have HB := Lib.hid hcut
  clear hcut
  have hll : (loaded ls).lasts = ls := rfl
  have HLL := Lib.hid hll
  clear hll
  go_wp2_with fail
  refine (sectors_any HB.out.dk).mono ?_
  rintro e w3 ⟨hq1, k, c3, rfl, hk, hs⟩
  rw [HLL.out] at hs
  rw [HLL.out, HL.out]
  have hbd := HB.out.same hq1
  have hkn : k ∉ [d, L, M, r, RL, RW, RH] := by
    have h : ∀ x ∈ [d, L, M, r, RL, RW, RH], x ≠ k := fun x hx e => by have := (HB.out.bx.own x hx).2; omega
    exact fun hm => h k hm rfl
  have hk0 : w.heap.size ≤ k := Nat.le_trans HB.out.bx.tch.size hk
  have HB3 := Lib.hid hbd
  have S3 := Lib.hid hs
  have HKN := Lib.hid hkn
  have CEQ : Hid (∀ W, Both w W d L M (loaded ls) r RL RW RH (loaded ls) [] → SecsIn W k ls → Calls Try.prog 26 #[.slice (some ⟨k, 0, none⟩) n c3, .slice (some ⟨RL, 0, none⟩) n n] W fun e w' => e = .returned (.bool true) ∧ Tch [] W w') := fun W h1 h2 => by
    have h := eqSecs_any (ca := c3) (cb := n) h2 (secsIn_whole h1.rf.hL) (by rw [HL.out]; omega) (by rw [HLL.out, HL.out]; omega)
    rw [HLL.out, HL.out, decide_eq_true rfl] at h
    exact h
  have cL := cell_of_row w3 r 0 _ _ _ HB3.out.rf.hr
  simp only [List.getElem?_toArray, List.getElem?_cons_zero, HLL.out, HL.out] at cL
  clear hq1 hs hk hbd hkn HB
  go_upto_block 4 with (go_at_call 26; refine (CEQ.out _ HB3.out S3.out).mono ?_; rintro e w4 ⟨rfl, hq1⟩; have HB4 := Lib.hid (HB3.out.same hq1); have S4 := Lib.hid (S3.out.touch hq1 (by simp)); clear hq1)
  go_cut [13] from 75 to 84 (fun _ wx => Both w wx d L M (loaded ls) r RL RW RH (loaded ls) [])
  case first =>
    go_wp2_with fail
    go_loopg [13] n (fun q i wr => ∃ j, OnAt n i q j ∧ Both w wr d L M (loaded ls) r RL RW RH (loaded ls) [] ∧ ∃ ls', SecsIn wr k ls' ∧ ls'.length = n)
    case atStart => exact ⟨0, ⟨Nat.zero_le _, rfl, rfl⟩, HB4.out, _, S4.out, HL.out⟩
    case round =>
      obtain ⟨j, ⟨hj, rfl, rfl⟩, hP, ls', hS, hl⟩ := hrel
      clear HB3 S3 HB4 S4 cL
      have HB := Lib.hid hP
      have S3 := Lib.hid hS
      have hjl : j < n → j < ls'.length := by omega
      have HL2 := Lib.hid hl
      clear hP hS hl
      by_cases hjn : j < n
      · have hjl := hjl hjn
        go_wp2_with (first | (go_at_call 13; refine (OV.out _ (by decide) _).mono ?_; rintro e w5 ⟨rfl, hq1⟩; have HB5 := Lib.hid (HB.out.same hq1); have S5 := Lib.hid (S3.out.touch hq1 (by simp)); clear hq1) | ((with_reducible apply wc_store_in secT S5.out hjl); exact rfl; exact rfl; intro w6 hs6 ht6; go_frame; have HB6 := Lib.hid (HB5.out.side HKN.out hk0 ht6); have S6 := Lib.hid hs6; clear hs6 ht6))
        go_roundg (n - (j + 1))
        case measure => omega
        case rel => exact ⟨j + 1, ⟨by omega, by go_num, rfl⟩, HB6.out, _, S6.out, by simpa using HL2.out⟩
      · go_wp2_with fail
        go_meet
        exact HB.out
  case rest =>
  have HB := Lib.hid hcut
  clear hcut HB3 S3 HB4 S4 cL CEQ
  generalize loaded ls = D0 at *
  go_upto_block 6 with fail
  go_cut [14] from 85 to 102 (fun _ wx => ∃ D, Both w wx d L M D r RL RW RH D [])
  case first =>
    go_wp2_with fail
    go_loopg [14] 300 (fun q i wr => ∃ j, OnAt 300 i q j ∧ ∃ D, Both w wr d L M D r RL RW RH D [])
    case atStart => exact ⟨0, ⟨Nat.zero_le _, rfl, rfl⟩, _, HB.out⟩
    case round =>
      obtain ⟨j, ⟨hj, rfl, rfl⟩, D, hP⟩ := hrel
      clear HB
      have HB := Lib.hid hP
      clear hP
      by_cases hj1 : j < m
      · by_cases hj2 : j < 300
        · have hlen' : os.length = m := HN.out
          have hx : os[j]? = some (os[j]'(by omega)) := List.getElem?_eq_getElem _
          obtain ⟨kb, ko, rfl, hop⟩ := HO.out j _ hx
          have hkl := HK.out _ (List.mem_of_getElem? hx)
          generalize os[j]'(by omega) = o at *
          have hop' := hop.later HB.out.bx.tch
          have c0 := hop'.c0
          have c1 := hop'.c1
          have c2 := hop'.c2
          have c3 := hop'.c3
          have HOP := Lib.hid hop.ok
          have HKL := Lib.hid hkl
          clear hop hop' hx hlen' hkl
          go_wp2_with (go_at_call 21; refine (does_any HB.out o HOP.out HKL.out).mono ?_; rintro e w5 ⟨rfl, hq1⟩; have HQ := Lib.hid hq1; clear hq1)
          go_roundg (300 - (j + 1))
          case measure => omega
          case rel => exact ⟨j + 1, ⟨by omega, by go_num, rfl⟩, _, HQ.out⟩
        · go_wp2_with fail
          go_meet
          exact ⟨_, HB.out⟩
      · go_wp2_with fail
        go_meet
        exact ⟨_, HB.out⟩
  case rest =>
  obtain ⟨D, hP⟩ := hcut
  clear HB
  have HB := Lib.hid hP
  clear hP
  go_wp2_with (first | (go_at_call 21; refine (does_8 HB.out opLook rfl).mono ?_; rintro e w5 ⟨rfl, hq1⟩; have HR := Lib.hid hq1; clear hq1 HB) | (go_at_call 19; refine (works_any _).mono ?_; rintro e w7 ⟨rfl, hq1⟩; have HWK := Lib.hid (HR.out.same hq1); clear hq1))
  go_ret
  exact ⟨rfl, HWK.out.bx.tch⟩

theorem diskLoads_any (w : World) (ta : Option Addr) (tcap : Nat) (ts : List ByteArray) (ht : TextsAt w ta ts) (_htl : ts.length ≤ 9223372036854775807) (hts : ∀ s ∈ ts, s.size ≤ 9223372036854775807)
    (a : Option Addr) (cap : Nat) (os : List OpV) (ho : OpsAt w a os) (_h1 : os.length ≤ 9223372036854775807) (hk : ∀ o ∈ os, o.keep.length ≤ 17592186043904) :
    Calls Try.prog 9 #[.slice ta ts.length tcap, .slice a os.length cap] w fun e w' => e = .returned (.bool true) ∧ Tch [] w w' := by
  by_cases h1 : 300 < ts.length
  · exact diskLoads_big w ta tcap _ _ h1
  · by_cases h2 : ts.length = 0
    · rw [h2]; exact diskLoads_none w ta tcap _
    · exact diskLoads_in w ta tcap ts ht hts (by omega) (by omega) a cap os ho hk
end Go.Proofs.Ytpfgjopiddopbaa
