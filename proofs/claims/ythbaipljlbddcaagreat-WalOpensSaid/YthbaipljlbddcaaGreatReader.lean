/-
  Bytes read one thing behind the other: package octet's Reader.
-/
import Derived.Test.YthbaipljlbddcaaGreatPut
namespace Go.Proofs.YthbaipljlbddcaaGreat
open Go.RowKit Go.Cib

/-- Block r holds a reader of l that stands at at_. -/
structure ReaderAt (w : World) (r b o cap : Nat) (l : List UInt8) (at_ : Nat) : Prop where
  hr : w.heap[r]? = some (.cells #[.slice (some ⟨b, o, none⟩) l.length cap, .int .i64 at_, .int .i64 0] 142)
  hb : BytesAt w (some ⟨b, o, none⟩) l
  ne : b ≠ r
  hc : l.length ≤ cap
  hl : l.length ≤ 100000
  hcl : cap ≤ 9223372036854775807

theorem ReaderAt.touch {w w' : World} {r b o cap : Nat} {l : List UInt8} {at_ : Nat} {S : List Nat} (h : ReaderAt w r b o cap l at_) (ht : Tch S w w') (h1 : r ∉ S) (h2 : b ∉ S) : ReaderAt w' r b o cap l at_ :=
  ⟨ht.heap h.hr h1, h.hb.touch ht (by intro x _ hx; cases hx; exact h2), h.ne, h.hc, h.hl, h.hcl⟩
def ReaderOut (w : World) (l : List UInt8) (e : Ending) (w' : World) : Prop := ∃ r b o cap, e = .returned (.pointer (some ⟨r, 0, none⟩)) ∧ ReaderAt w' r b o cap l 0 ∧ w.heap.size ≤ r ∧ Tch [] w w'

set_option maxRecDepth 20000 in
set_option maxHeartbeats 1000000 in
theorem octRead_any {w : World} {ad : Addr} {cap : Nat} {l : List UInt8} (hl : BytesAt w (some ad) l) (hne : l ≠ []) (hlen : l.length ≤ 100000) :
    Calls Tryz.prog 79 #[.slice (some ad) l.length cap] w (ReaderOut w l) := by
  have HL := Lib.hid hl
  have HNE := Lib.hid hne
  have HLEN := Lib.hid hlen
  clear hl hne hlen
  go_enter Tryz.func79, Tryz.ntmps79
  go_wp2_with (at_builtin; refine wc_append_bytes (x := .const (.slice none 0 0)) (y := .tmp 3) byteT HNE.out HLEN.out HL.out rfl rfl rfl rfl ?_; intro g c w2 hg hc hcm hb ht; go_frame; have HG := Lib.hid hg; have HCM := Lib.hid hcm; have HC := Lib.hid hc; have HB := Lib.hid hb; have HT := Lib.hid ht; clear hg hc hcm hb ht)
  go_ret
  have hb : BytesAt (w2.alloc (.cells #[.slice (some ⟨g, 0, none⟩) l.length c, .int .i64 0, .int .i64 0] 142)) (some ⟨g, 0, none⟩) l := HB.out.later ((Tch.refl [] _).alloc _)
  have glt : g < w2.heap.size := by
    obtain ⟨x, hx⟩ : ∃ x, l[0]? = some x := ⟨l.head HNE.out, by have := HNE.out; cases l <;> simp_all⟩
    obtain ⟨b', o', e, hc⟩ := HB.out 0 x hx
    cases e
    exact block_lt_of_cell hc
  exact ⟨w2.heap.size, g, 0, c, rfl, ⟨heap_alloc_new _ _, hb, by omega, HC.out, HLEN.out, HCM.out⟩, HT.out.size, HT.out.alloc _⟩

set_option maxRecDepth 20000 in
set_option maxHeartbeats 1000000 in
theorem take_any {w : World} {r b o cap : Nat} {l : List UInt8} {at_ : Nat} (h : ReaderAt w r b o cap l at_) (n : Nat) (hn1 : 1 ≤ n) (hn : at_ + n ≤ l.length) :
    Calls Tryz.prog 95 #[.pointer (some ⟨r, 0, none⟩), .int .i64 n] w fun e w' => e = .returned (.slice (some ⟨b, o + at_, none⟩) n (cap - at_)) ∧ ReaderAt w' r b o cap l (at_ + n) ∧ Tch [r] w w' := by
  have c0 := cell_of_row w r 0 _ _ _ h.hr
  have c1 := cell_of_row w r 1 _ _ _ h.hr
  have c2 := cell_of_row w r 2 _ _ _ h.hr
  have f1 := frozen_of_row w r 1 _ _ h.hr
  simp only [List.getElem?_toArray, List.getElem?_cons_zero, List.getElem?_cons_succ] at c0 c1 c2
  have hc := h.hc
  have hll := h.hl
  have hcl := h.hcl
  have H := Lib.hid h
  clear h
  obtain ⟨m, hm⟩ : ∃ m, l.length = m := ⟨_, rfl⟩
  rw [hm] at c0 hn hc hll
  have HM := Lib.hid hm
  clear hm
  have g1 : decide ((m : Int) - (at_ : Int) < (n : Int)) = false := by rw [decide_eq_false_iff_not]; omega
  have hac : at_ < cap := by omega
  go_enter Tryz.func95, Tryz.ntmps95
  go_wp2_with fail
  (refine wp_region_quiet_lit (by kernel_rfl) (by kernel_rfl) ?_; (repeat (first | fail | go_big_quiet_step (fail))); refine wpQuiet_nil ?_; intro _ hw'; obtain ⟨nq, hw''⟩ := hw'; subst hw'')
  clear g1
  go_wp2_with fail
  have e1 : (((at_ : Int) + (n : Int))) = ((at_ + n : Nat) : Int) := rfl
  rw [e1]
  obtain ⟨w1, hw1⟩ : ∃ w1, (w.drewN nq).setCell ⟨r, 1, none⟩ (.int .i64 ((at_ + n : Nat) : Int)) = w1 := ⟨_, rfl⟩
  rw [hw1]
  have t1 : Tch [r] w w1 := by rw [← hw1]; exact ((tch_drewN w nq).mono (by simp)).setCell (by simp) _
  have hR : ReaderAt w1 r b o cap l (at_ + n) := by
    refine ⟨?_, H.out.hb.touch t1 (by intro x _ hx; cases hx; simpa using H.out.ne), H.out.ne, H.out.hc, H.out.hl, H.out.hcl⟩
    rw [← hw1, heap_setCell_cells ((tch_drewN w nq).heap H.out.hr (by simp))]
    rfl
  have HR := Lib.hid hR
  have T1 := Lib.hid t1
  have c0' := cell_of_row w1 r 0 _ _ _ HR.out.hr
  have c1' := cell_of_row w1 r 1 _ _ _ HR.out.hr
  simp only [List.getElem?_toArray, List.getElem?_cons_zero, List.getElem?_cons_succ, HM.out] at c0' c1'
  clear hw1 hR t1 e1 c0 c1 c2 f1
  (refine wp_region_quiet_lit (by kernel_rfl) (by kernel_rfl) ?_; (repeat (first | fail | go_big_quiet_step (fail))); refine wpQuiet_nil ?_; intro _ hw'; obtain ⟨nq, hw''⟩ := hw'; subst hw'')
  go_wp2_with fail
  go_ret
  have en : at_ + n - at_ = n := by omega
  exact ⟨by rw [en]; rfl, HR.out.touch (tch_drewN _ _) (by simp) (by simp), T1.out.trans ((tch_drewN _ _).mono (by simp))⟩

set_option maxRecDepth 20000 in
set_option maxHeartbeats 1000000 in
theorem number_any {w : World} {r b o cap : Nat} {l : List UInt8} {at_ : Nat} (h : ReaderAt w r b o cap l at_) (n : Nat) (hn1 : 1 ≤ n) (hn8 : n ≤ 8) (hn : at_ + n ≤ l.length) :
    Calls Tryz.prog 94 #[.pointer (some ⟨r, 0, none⟩), .int .i64 n] w fun e w' => e = .returned (.int .u64 (beVal ((l.drop at_).take n))) ∧ ReaderAt w' r b o cap l (at_ + n) ∧ Tch [r] w w' := by
  have H := Lib.hid h
  have HN := Lib.hid hn
  clear h hn
  go_enter Tryz.func94, Tryz.ntmps94
  go_wp2_with (go_at_call 95; refine (take_any H.out n hn1 HN.out).mono ?_; rintro e w1 ⟨rfl, hq1, hq2⟩; have H1 := Lib.hid hq1; have T1 := Lib.hid hq2; clear hq1 hq2)
  have hlq : ((l.drop at_).take n).length = n := by rw [List.length_take, List.length_drop]; have := HN.out; omega
  have hat : ∀ j : Nat, j < n → ∃ x, ((l.drop at_).take n)[j]? = some x ∧ w1.cell? ⟨b, o + at_ + j, none⟩ = some (bv x) := by
    intro j hj
    have hx := List.getElem?_eq_getElem (l := (l.drop at_).take n) (i := j) (by omega)
    obtain ⟨b', o', e, hc⟩ := ((H1.out.hb.drop at_).take n) j _ hx
    cases e
    exact ⟨_, hx, hc⟩
  have HAT := Lib.hid hat
  have HLQ := Lib.hid hlq
  clear hat hlq
  generalize hqq : (l.drop at_).take n = q at *
  have HQQ := Lib.hid hqq
  clear hqq
  go_loopg [4, 6, 11] n (fun k v _ i wr => ∃ j p, OnAt n i k j ∧ v = .int .u64 (p : Nat) ∧ p = beVal (q.take j) ∧ w1 = wr)
  case atStart => exact ⟨0, 0, ⟨Nat.zero_le _, rfl, rfl⟩, rfl, rfl, rfl⟩
  case round =>
    obtain ⟨j, p, ⟨hj, rfl, rfl⟩, rfl, hp, rfl⟩ := hrel
    have hpb : p < 256 ^ j := by
      rw [hp]
      have := beVal_lt (q.take j)
      have hl : (q.take j).length = j := by rw [List.length_take]; have := HLQ.out; omega
      rwa [hl] at this
    have HP := Lib.hid hp
    clear hp
    by_cases hjn : j < n
    · obtain ⟨x, hx, hc⟩ := HAT.out j hjn
      have hp56 : p < 72057594037927936 := Nat.lt_of_lt_of_le hpb (Nat.pow_le_pow_right (by omega) (show j ≤ 7 by omega))
      have hxb := x.toNat_lt
      have HX := Lib.hid hx
      unfold bv at hc
      clear hx hpb
      have hor : bits BinOp.or IntKind.u64 ((p : Int) * 256) ((x.toNat : Nat) : Int) = ((p * 256 + x.toNat : Nat) : Int) := by
        have h1 := u64_or_nat (p * 256) x.toNat (by omega) (by omega)
        rw [nat_join 8 (p * 256) x.toNat (by omega) (by omega)] at h1
        exact h1
      have HOR := Lib.hid hor
      clear hor
      go_wp2_with fail
      go_roundg (n - (j + 1))
      case measure => omega
      case rel =>
        refine ⟨j + 1, p * 256 + x.toNat, ⟨by omega, by go_num, rfl⟩, by rw [HOR.out], ?_, rfl⟩
        have hx : q[j]? = some x := HX.out
        rw [List.take_add_one, hx, Option.toList_some, beVal_snoc, ← HP.out]
    · have hq : q.take j = q := List.take_of_length_le (by have := HLQ.out; omega)
      have hp2 : p = beVal q := by rw [HP.out, hq]
      have HP2 := Lib.hid hp2
      clear hpb HP hq hp2
      go_wp2_with fail
      go_ret
      exact ⟨by rw [HQQ.out, ← HP2.out]; rfl, H1.out, T1.out⟩

set_option maxRecDepth 20000 in
theorem octU8_any {w : World} {r b o cap : Nat} {l : List UInt8} {at_ : Nat} (h : ReaderAt w r b o cap l at_) (hn : at_ + 1 ≤ l.length) :
    Calls Tryz.prog 80 #[.pointer (some ⟨r, 0, none⟩)] w fun e w' => e = .returned (.int .u8 (l.getD at_ 0).toNat) ∧ ReaderAt w' r b o cap l (at_ + 1) ∧ Tch [r] w w' := by
  have HC := Lib.hid (number_any h 1 (by omega) (by omega) hn)
  have hv : beVal ((l.drop at_).take 1) = (l.getD at_ 0).toNat := by
    rw [List.drop_eq_getElem_cons (by omega), List.take_succ_cons, List.take_zero]
    simp [beVal, List.getD_eq_getElem?_getD, List.getElem?_eq_getElem (show at_ < l.length by omega)]
  have HV := Lib.hid hv
  have hb := (l.getD at_ 0).toNat_lt
  generalize (l.getD at_ 0).toNat = v at *
  clear h hv
  go_enter Tryz.func80, Tryz.ntmps80
  go_wp2_with (go_at_call 94; refine HC.out.mono ?_; rintro e w1 ⟨rfl, hq1, hq2⟩; rw [HV.out]; have H1 := Lib.hid hq1; have T1 := Lib.hid hq2; clear hq1 hq2)
  go_ret
  refine ⟨?_, H1.out, T1.out⟩
  have : (v : Int) % 256 = v := by omega
  simp

set_option maxRecDepth 20000 in
theorem octU32_any {w : World} {r b o cap : Nat} {l : List UInt8} {at_ : Nat} (h : ReaderAt w r b o cap l at_) (hn : at_ + 4 ≤ l.length) :
    Calls Tryz.prog 83 #[.pointer (some ⟨r, 0, none⟩)] w fun e w' => e = .returned (.int .u32 (beVal ((l.drop at_).take 4))) ∧ ReaderAt w' r b o cap l (at_ + 4) ∧ Tch [r] w w' := by
  have HC := Lib.hid (number_any h 4 (by omega) (by omega) hn)
  have hb := beVal_lt ((l.drop at_).take 4)
  have hlq : ((l.drop at_).take 4).length = 4 := by rw [List.length_take, List.length_drop]; omega
  rw [hlq] at hb
  have hb : beVal ((l.drop at_).take 4) < 4294967296 := hb
  generalize beVal ((l.drop at_).take 4) = v at *
  clear h hlq
  go_enter Tryz.func83, Tryz.ntmps83
  go_wp2_with (go_at_call 94; refine HC.out.mono ?_; rintro e w1 ⟨rfl, hq1, hq2⟩; have H1 := Lib.hid hq1; have T1 := Lib.hid hq2; clear hq1 hq2)
  go_ret
  exact ⟨by first | rfl | (have : (v : Int) % 4294967296 = v := by omega; simp [this]), H1.out, T1.out⟩

set_option maxRecDepth 20000 in
theorem octU64_any {w : World} {r b o cap : Nat} {l : List UInt8} {at_ : Nat} (h : ReaderAt w r b o cap l at_) (hn : at_ + 8 ≤ l.length) :
    Calls Tryz.prog 82 #[.pointer (some ⟨r, 0, none⟩)] w fun e w' => e = .returned (.int .u64 (beVal ((l.drop at_).take 8))) ∧ ReaderAt w' r b o cap l (at_ + 8) ∧ Tch [r] w w' := by
  have HC := Lib.hid (number_any h 8 (by omega) (by omega) hn)
  have hb := beVal_lt ((l.drop at_).take 8)
  have hlq : ((l.drop at_).take 8).length = 8 := by rw [List.length_take, List.length_drop]; omega
  rw [hlq] at hb
  have hb : beVal ((l.drop at_).take 8) < 18446744073709551616 := hb
  generalize beVal ((l.drop at_).take 8) = v at *
  clear h hlq
  go_enter Tryz.func82, Tryz.ntmps82
  go_wp2_with (go_at_call 94; refine HC.out.mono ?_; rintro e w1 ⟨rfl, hq1, hq2⟩; have H1 := Lib.hid hq1; have T1 := Lib.hid hq2; clear hq1 hq2)
  go_ret
  exact ⟨by first | rfl | (have : (v : Int) % 18446744073709551616 = v := by omega; simp [this]), H1.out, T1.out⟩
end Go.Proofs.YthbaipljlbddcaaGreat
