/-
  The ops of a script in memory; the loop of DiskArms.
-/
import Derived.Test.YtpfgjopiddopbaaDisk7
import Derived.Test.YtpfgjopiddopbaaRegion
namespace Go.Proofs.Ytpfgjopiddopbaa
open Go.RowKit Go.Cib

structure OpV where
  what : Int
  i : Int
  text : ByteArray
  ka : Option Addr
  keep : List Int
  kcap : Nat

structure OpAt (w : World) (b off : Nat) (o : OpV) : Prop where
  c0 : w.cell? ⟨b, off, none⟩ = some (.int .i64 o.what)
  c1 : w.cell? ⟨b, off + 1, none⟩ = some (.int .i64 o.i)
  c2 : w.cell? ⟨b, off + 2, none⟩ = some (.string o.text)
  c3 : w.cell? ⟨b, off + 3, none⟩ = some (.slice o.ka o.keep.length o.kcap)
  keep : IntsAt w o.ka o.keep
  txt : o.text.size ≤ 9223372036854775807
  len : o.keep.length ≤ 9223372036854775807
  lo : -9223372036854775808 ≤ o.i
  hi : o.i ≤ 9223372036854775807

def OpsAt (w : World) (a : Option Addr) (os : List OpV) : Prop :=
  ∀ j o, os[j]? = some o → ∃ b off, a = some ⟨b, off, none⟩ ∧ OpAt w b (off + j * 4) o

theorem cell_old {w w' : World} (h : Tch [] w w') {a : Addr} {v : Value} (hc : w.cell? a = some v) : w'.cell? a = some v := by
  rw [World.cell?_of_block (w := w) (h.block _ (block_lt_of_cell hc) (by simp))]; exact hc
theorem OpAt.later {w w' : World} {b off : Nat} {o : OpV} (h : OpAt w b off o) (ht : Tch [] w w') : OpAt w' b off o :=
  ⟨cell_old ht h.c0, cell_old ht h.c1, cell_old ht h.c2, cell_old ht h.c3, h.keep.touch ht (by simp), h.txt, h.len, h.lo, h.hi⟩

/-- How a count of operations shows on a disk that was armed with k. -/
structure Armed (D : DiskS) (k c : Nat) : Prop where
  on : c < k → D.dead = false ∧ D.armed = k - c
  off : k ≤ c → D.dead = true ∧ D.armed = 0
  sum : D.writes + D.flushes = min c k
  w0 : 0 ≤ D.writes
  f0 : 0 ≤ D.flushes
  len : D.lasts.length = 8

/-- An index that the statement makes of any number. -/
def idx8 (i : Int) : Int := ((i.tmod 8) + 8).tmod 8
theorem idx8_in (i : Int) : 0 ≤ idx8 i ∧ idx8 i < 8 ∧ -8 < i.tmod 8 ∧ i.tmod 8 < 8 := by
  have h1 := Int.tmod_lt_of_pos i (show (0 : Int) < 8 by omega)
  have h2 := Int.lt_tmod_of_pos i (show (0 : Int) < 8 by omega)
  unfold idx8
  rw [Int.tmod_eq_emod_of_nonneg (by omega)]
  omega

theorem Armed.write {D : DiskS} {k c : Nat} (h : Armed D k c) (i : Int) (s : Sec) (hi : 0 ≤ i ∧ i < 8) (hk : k ≤ 40) :
    Armed (D.write i s).2 k (c + 1) ∧ (D.write i s).1 = if c + 1 < k then 0 else 6 := by
  have hl := h.len
  by_cases hc : c < k
  · obtain ⟨h1, h2⟩ := h.on hc
    have hm : D.may i = 0 := by unfold DiskS.may; rw [if_neg (by simp [h1]), if_neg (by omega), if_neg (by omega)]
    have hs := h.sum; have hw := h.w0; have hf := h.f0
    have hww : wrap64 (D.writes + 1) = D.writes + 1 := by unfold wrap64; omega
    unfold DiskS.write
    rw [if_pos hm]
    simp only [DiskS.went, DiskS.goes, DiskS.put, h2, hww]
    by_cases hc1 : c + 1 < k
    · have e1 : ((k : Int) - (c : Int) == 1) = false := by simp; omega
      rw [if_neg (by omega), e1, if_pos hc1]
      exact ⟨⟨fun _ => ⟨rfl, by simp only; omega⟩, fun h => by omega, by simp only; omega, by simp only; omega, hf, hl⟩, by simp⟩
    · have e1 : ((k : Int) - (c : Int) == 1) = true := by simp; omega
      rw [if_neg (by omega), e1, if_neg hc1]
      exact ⟨⟨fun h => by omega, fun _ => ⟨rfl, by simp only; omega⟩, by simp only; omega, by simp only; omega, hf, hl⟩, by simp⟩
  · obtain ⟨h1, h2⟩ := h.off (by omega)
    have hm : D.may i = 6 := by unfold DiskS.may; rw [if_pos h1]
    unfold DiskS.write
    rw [if_neg (by omega), hm, if_neg (by omega)]
    have hs := h.sum
    exact ⟨⟨fun h => by omega, fun _ => ⟨h1, h2⟩, by simp only; omega, h.w0, h.f0, hl⟩, rfl⟩
theorem Armed.flush {D : DiskS} {k c : Nat} (h : Armed D k c) (hk : k ≤ 40) :
    Armed D.flush.2 k (c + 1) ∧ D.flush.1 = if c + 1 < k then 0 else 6 := by
  have hl := h.len
  by_cases hc : c < k
  · obtain ⟨h1, h2⟩ := h.on hc
    have hs := h.sum; have hw := h.w0; have hf := h.f0
    have hww : wrap64 (D.flushes + 1) = D.flushes + 1 := by unfold wrap64; omega
    unfold DiskS.flush
    rw [if_neg (by simp [h1])]
    simp only [DiskS.went, DiskS.goes, DiskS.counted, h2, hww]
    by_cases hc1 : c + 1 < k
    · have e1 : ((k : Int) - (c : Int) == 1) = false := by simp; omega
      rw [if_neg (by simp [e1]), if_neg (by omega), e1, if_pos hc1]
      exact ⟨⟨fun _ => ⟨rfl, by simp only [DiskS.flushed]; omega⟩, fun h => by omega, by simp only [DiskS.flushed]; omega, hw, by simp only [DiskS.flushed]; omega, by simpa [DiskS.flushed] using hl⟩, rfl⟩
    · have e1 : ((k : Int) - (c : Int) == 1) = true := by simp; omega
      rw [if_pos e1, if_neg (by omega), e1, if_neg hc1]
      exact ⟨⟨fun h => by omega, fun _ => ⟨rfl, by simp only; omega⟩, by simp only; omega, hw, by simp only; omega, hl⟩, rfl⟩
  · obtain ⟨h1, h2⟩ := h.off (by omega)
    unfold DiskS.flush
    rw [if_pos h1, if_neg (by omega)]
    have hs := h.sum
    exact ⟨⟨fun h => by omega, fun _ => ⟨h1, h2⟩, by simp only; omega, h.w0, h.f0, hl⟩, rfl⟩

theorem arms_k (n : Int) : ∃ k : Nat, wrap64 ((wrap64 (n.tmod 40 + 40)).tmod 40 + 1) = k ∧ 1 ≤ k ∧ k ≤ 40 := by
  have h1 := Int.tmod_lt_of_pos n (show (0 : Int) < 40 by omega)
  have h2 := Int.lt_tmod_of_pos n (show (0 : Int) < 40 by omega)
  have e1 : wrap64 (n.tmod 40 + 40) = n.tmod 40 + 40 := by unfold wrap64; omega
  rw [e1, Int.tmod_eq_emod_of_nonneg (by omega)]
  have e2 : wrap64 ((n.tmod 40 + 40) % 40 + 1) = (n.tmod 40 + 40) % 40 + 1 := by unfold wrap64; omega
  rw [e2]
  exact ⟨((n.tmod 40 + 40) % 40 + 1).toNat, by omega, by omega, by omega⟩

theorem Armed.sum_eq {D : DiskS} {k c : Nat} (h : Armed D k c) (hk : k ≤ 40) (v : Int) (hv : min (c : Int) k = v) : (wrap64 (D.writes + D.flushes) != v) = false := by
  have h1 := h.sum
  have : wrap64 (D.writes + D.flushes) = v := by unfold wrap64; omega
  simp [this]
theorem Armed.dead_read {D : DiskS} {k c : Nat} (h : Armed D k c) (hc : k ≤ c) : D.read 0 = (Arr.zero, 6) := by
  have := (h.off hc).1
  unfold DiskS.read DiskS.may
  simp [this]
theorem Armed.dead_on {D : DiskS} {k c : Nat} (h : Armed D k c) (hc : k ≤ c) : (D.on []).1 = 0 ∧ (D.on []).2.flush.1 = 0 := by
  have h1 := (h.off hc).1
  have h2 := (h.off hc).2
  constructor
  · unfold DiskS.on; simp [h1]
  · unfold DiskS.on; simp [h1, DiskS.flush, DiskS.went, h2]
theorem Armed.live_on {D : DiskS} {k c : Nat} (h : Armed D k c) (hc : c < k) : (D.on []).1 = 70 := by
  have := (h.on hc).1
  unfold DiskS.on; simp [this]

/-- What the loop of DiskArms has done so far. -/
def ArmsRel (w0 : World) (d L M : Nat) (k j c : Nat) (wr : World) : Prop := ∃ D, WK w0 wr d L M D [] ∧ Armed D k c ∧ c ≤ j

theorem info30 : (Try.prog.info? 30).map (fun i => (i.size, i.zero)) = some (4, some (.agg #[.int .i64 0, .int .i64 0, .string ByteArray.empty, .slice none 0 0])) := by kernel_rfl

set_option maxRecDepth 20000 in
set_option maxHeartbeats 2000000 in
theorem diskArms_any (w : World) (n : Int) (a : Option Addr) (cap : Nat) (os : List OpV) (ho : OpsAt w a os) (_hlen : os.length ≤ 9223372036854775807) :
    Calls Try.prog 3 #[.int .i64 n, .slice a os.length cap] w fun e w' => e = .returned (.bool true) ∧ Tch [] w w' := by
  have HO := Lib.hid ho
  clear ho
  go_enter Try.func3, Try.ntmps3
  go_wp2_with fail
  refine (new_any w 8 (by omega) (by omega)).mono ?_
  rintro e w1 ⟨d, L, M, rfl, h1, t1, n1, n2, n3⟩
  have H1 : Hid (WK w w1 d L M (DiskS.made 8) []) := ⟨h1, t1, n1, n2, n3, by simp⟩
  clear h1 t1 n1 n2 n3
  go_wp2_with fail
  obtain ⟨k, hk, hk1, hk2⟩ := arms_k n
  rw [hk]
  clear hk
  refine (arm_any H1.out.disk k (by omega)).mono ?_
  rintro e w2 ⟨rfl, h2, t2⟩
  have ek : (DiskS.made 8).arm (k : Int) = (0, { DiskS.made 8 with armed := (k : Int) }) := by unfold DiskS.arm; rw [if_neg (by omega)]
  rw [ek] at h2 ⊢
  have hrel : ArmsRel w d L M k 0 0 w2 := ⟨_, H1.out.step h2 (t2.mono (by simp)), ⟨fun _ => ⟨rfl, by simp⟩, fun h => by omega, by simp [DiskS.made], by simp [DiskS.made], by simp [DiskS.made], by simp [DiskS.made]⟩, Nat.le_refl _⟩
  have HREL := Lib.hid hrel
  clear h2 t2 ek hrel H1
  go_wp2_with fail
  generalize hn : os.length = m at *
  have HN := Lib.hid hn
  clear hn
  go_loopg [8, 9] 300 (fun q c i wr => ∃ j c', OnAt 300 i q j ∧ c = .int .i64 (c' : Nat) ∧ ArmsRel w d L M k j c' wr)
  case atStart => exact ⟨0, 0, ⟨Nat.zero_le _, rfl, rfl⟩, rfl, HREL.out⟩
  case round =>
    obtain ⟨j, c, ⟨hj, rfl, rfl⟩, rfl, D, hW, hA, hcj⟩ := hrel
    have HW := Lib.hid hW
    have HA := Lib.hid hA
    clear hW hA HREL
    by_cases hj1 : j < m
    · by_cases hj2 : j < 300
      · have hlen' : os.length = m := HN.out
        have hx : os[j]? = some (os[j]'(by omega)) := List.getElem?_eq_getElem _
        obtain ⟨kb, ko, rfl, hop⟩ := HO.out j _ hx
        generalize os[j]'(by omega) = o at *
        have hop' := hop.later HW.out.tch
        have c0 := hop'.c0
        have c1 := hop'.c1
        have c2 := hop'.c2
        have c3 := hop'.c3
        have HOP := Lib.hid hop
        clear hop hop' hx hlen'
        cases hw1 : (o.what == 1) with
        | true =>
          go_wp2_with fail
          have cX1 : (wr.alloc (.cells #[.int .i64 o.what, .int .i64 o.i, .string o.text, .slice o.ka o.keep.length o.kcap] 30)).cell? ⟨wr.heap.size, 1, none⟩ = some (.int .i64 o.i) := by simp
          have cX2 : (wr.alloc (.cells #[.int .i64 o.what, .int .i64 o.i, .string o.text, .slice o.ka o.keep.length o.kcap] 30)).cell? ⟨wr.heap.size, 2, none⟩ = some (.string o.text) := by simp
          have HWX : Hid (WK w (wr.alloc (.cells #[.int .i64 o.what, .int .i64 o.i, .string o.text, .slice o.ka o.keep.length o.kcap] 30)) d L M D []) := HW.out.same ((Tch.refl _ _).alloc _)
          generalize wr.alloc (.cells #[.int .i64 o.what, .int .i64 o.i, .string o.text, .slice o.ka o.keep.length o.kcap] 30) = wX at *
          generalize wr.heap.size = X at *
          clear c0 c1 c2 c3
          refine wp_region_inv 9 [.pointer (some ⟨d, 0, none⟩), .pointer (some ⟨X, 1, none⟩), .int .i64 o.i, .int .i64 (o.i.tmod 8), .int .i64 (o.i.tmod 8 + 8), .int .i64 (idx8 o.i), .pointer (some ⟨X, 2, none⟩), .string o.text, .agg (secA (Arr.text o.text.data.toList : Sec))] _
            (fun w' => WK w w' d L M D [] ∧ w'.cell? ⟨X, 1, none⟩ = some (.int .i64 o.i) ∧ w'.cell? ⟨X, 2, none⟩ = some (.string o.text)) (by kernel_rfl) (by kernel_rfl) rfl
            (by simp only [putAll, List.take_succ_cons, List.take_zero]; go_frame; exact rfl) ⟨HWX.out.same (Tch.refl _ _).drew, cX1, cX2⟩ ?_ ?_
          · simp only [List.take_succ_cons, List.take_zero]
            obtain ⟨i1, i2, i3, i4⟩ := idx8_in o.i
            have HI := Lib.hid (And.intro i1 i2)
            clear i1 i2
            refine stepsOk_cons (stepOk_value rfl fun W hW => ?_) (stepsOk_cons (stepOk_value rfl fun W hW => ?_) (stepsOk_cons (stepOk_value rfl fun W hW => ?_) (stepsOk_cons (stepOk_value rfl fun W hW => ?_) (stepsOk_cons (stepOk_value rfl fun W hW => ?_) (stepsOk_cons (stepOk_value rfl fun W hW => ?_) (stepsOk_cons (stepOk_value rfl fun W hW => ?_) (stepsOk_cons (stepOk_value rfl fun W hW => ?_) (stepsOk_cons (stepOk_call (f := 13) (args := #[.string o.text]) rfl (fun W => ?_) (fun W hW => ?_)) stepsOk_nil))))))))
            all_goals first | (obtain ⟨hW1, hW2, hW3⟩ := hW; clear hW1; go_simp; done) | go_simp | skip
            · exact IntWalk.i64_in _ (by omega)
            · rfl
            · refine (text_any _ _ HOP.out.txt).mono ?_
              rintro e w' ⟨rfl, ht⟩
              exact ⟨rfl, hW.1.same ht, cell_old ht hW.2.1, cell_old ht hW.2.2⟩
          · intro wY hY
            have HY := Lib.hid hY.1
            clear hY cX1 cX2 HWX
            simp only [List.drop_succ_cons, List.drop_zero]
            obtain ⟨a1, a2⟩ := HA.out.write (idx8 o.i) (Arr.text o.text.data.toList) ⟨(idx8_in o.i).1, (idx8_in o.i).2.1⟩ hk2
            by_cases hck : c + 1 < k
            · (rw [if_pos hck] at a2; have hdd := (a1.on hck).1; have A1 := Lib.hid a1; have A2 := Lib.hid a2; have DD := Lib.hid hdd; clear a1 a2 hdd; go_wp2_with (first | (go_at_call 12; refine ((write_any HY.out.disk (idx8 o.i) (Arr.text o.text.data.toList))).mono ?_; rintro e w' ⟨rfl, hq1, hq2⟩; rw [A2.out]; have HQ := Lib.hid (HY.out.step hq1 hq2); clear hq1 hq2) | (go_at_call 15; refine (dead_any HQ.out.disk).mono ?_; rintro e w' ⟨rfl, rfl⟩; rw [DD.out])); go_roundg (300 - (j + 1)); (case measure => omega); (case rel => exact ⟨j + 1, c + 1, ⟨by omega, by go_num, rfl⟩, by go_num, _, HQ.out, A1.out, by omega⟩))
            · (rw [if_neg hck] at a2; have hdd := (a1.off (Nat.le_of_not_lt hck)).1; have A1 := Lib.hid a1; have A2 := Lib.hid a2; have DD := Lib.hid hdd; clear a1 a2 hdd; go_wp2_with (first | (go_at_call 12; refine ((write_any HY.out.disk (idx8 o.i) (Arr.text o.text.data.toList))).mono ?_; rintro e w' ⟨rfl, hq1, hq2⟩; rw [A2.out]; have HQ := Lib.hid (HY.out.step hq1 hq2); clear hq1 hq2) | (go_at_call 15; refine (dead_any HQ.out.disk).mono ?_; rintro e w' ⟨rfl, rfl⟩; rw [DD.out])); go_roundg (300 - (j + 1)); (case measure => omega); (case rel => exact ⟨j + 1, c + 1, ⟨by omega, by go_num, rfl⟩, by go_num, _, HQ.out, A1.out, by omega⟩))
        | false =>
          have HY : Hid (WK w (wr.alloc (.cells #[.int .i64 o.what, .int .i64 o.i, .string o.text, .slice o.ka o.keep.length o.kcap] 30)) d L M D []) := HW.out.same ((Tch.refl _ _).alloc _)
          cases hw2 : (o.what == 2) with
          | true =>
            obtain ⟨a1, a2⟩ := HA.out.flush hk2
            by_cases hck : c + 1 < k
            · (rw [if_pos hck] at a2; have hdd := (a1.on hck).1; have A1 := Lib.hid a1; have A2 := Lib.hid a2; have DD := Lib.hid hdd; clear a1 a2 hdd; go_wp2_with (first | (go_at_call 14; refine ((flush_any HY.out.disk)).mono ?_; rintro e w' ⟨rfl, hq1, hq2⟩; rw [A2.out]; have HQ := Lib.hid (HY.out.step hq1 hq2); clear hq1 hq2) | (go_at_call 15; refine (dead_any HQ.out.disk).mono ?_; rintro e w' ⟨rfl, rfl⟩; rw [DD.out])); go_roundg (300 - (j + 1)); (case measure => omega); (case rel => exact ⟨j + 1, c + 1, ⟨by omega, by go_num, rfl⟩, by go_num, _, HQ.out, A1.out, by omega⟩))
            · (rw [if_neg hck] at a2; have hdd := (a1.off (Nat.le_of_not_lt hck)).1; have A1 := Lib.hid a1; have A2 := Lib.hid a2; have DD := Lib.hid hdd; clear a1 a2 hdd; go_wp2_with (first | (go_at_call 14; refine ((flush_any HY.out.disk)).mono ?_; rintro e w' ⟨rfl, hq1, hq2⟩; rw [A2.out]; have HQ := Lib.hid (HY.out.step hq1 hq2); clear hq1 hq2) | (go_at_call 15; refine (dead_any HQ.out.disk).mono ?_; rintro e w' ⟨rfl, rfl⟩; rw [DD.out])); go_roundg (300 - (j + 1)); (case measure => omega); (case rel => exact ⟨j + 1, c + 1, ⟨by omega, by go_num, rfl⟩, by go_num, _, HQ.out, A1.out, by omega⟩))
          | false =>
            go_wp2_with fail
            go_roundg (300 - (j + 1))
            case measure => omega
            case rel => exact ⟨j + 1, c, ⟨by omega, by go_num, rfl⟩, rfl, D, HY.out, HA.out, by omega⟩
      · rcases Nat.lt_trichotomy c k with hck | hck | hck
        · have s1 := HA.out.sum_eq hk2 c (by omega)
          have s2 : ¬ k < c := by omega
          have E1 := Lib.hid (HA.out.live_on hck)
          go_wp2_with (first | (go_at_call 16; refine (counts_any HW.out.disk).mono ?_; rintro e w' ⟨rfl, hq1⟩; have HQ := Lib.hid (HW.out.same hq1); clear hq1) | (go_at_call 17; refine (read_any HQ.out.disk 0).mono ?_; rintro e w' ⟨rfl, hq1⟩; rw [E0.out]; have HQ2 := Lib.hid ((HQ.out.same hq1).put Arr.zero); clear hq1) | ((with_reducible refine wc_alloc_arr secT ?_); go_frame; (try simp only [World.size_alloc])) | ((with_reducible apply wc_store_new secT); exact rfl; exact rfl; go_frame) | (go_at_call 18; (first | refine (on_any HQ2.out.disk none 0 [] (by intro j x h; simp at h) (by decide) (by simp)).mono ?_ | refine (on_any HQ.out.disk none 0 [] (by intro j x h; simp at h) (by decide) (by simp)).mono ?_); rintro e w' ⟨rfl, hq1, hq2⟩; (first | rw [E1.out.1] | rw [E1.out]); (first | have HQ3 := Lib.hid (HQ2.out.step hq1 hq2) | have HQ3 := Lib.hid (HQ.out.step hq1 hq2)); clear hq1 hq2) | (go_at_call 14; refine (flush_any HQ3.out.disk).mono ?_; rintro e w' ⟨rfl, hq1, hq2⟩; rw [E1.out.2]; have HQ4 := Lib.hid (HQ3.out.step hq1 hq2); clear hq1 hq2) | (go_at_call 19; refine (works_any _).mono ?_; rintro e w' ⟨rfl, hq1⟩; have HW4 := Lib.hid hq1; clear hq1))
          go_ret
          exact ⟨rfl, tch_own HQ3.out.tch HW4.out (by simp)⟩
        · subst hck
          have s1 := HA.out.sum_eq hk2 c (by omega)
          have s2 : ¬ c < c := by omega
          have E0 := Lib.hid (HA.out.dead_read (by omega))
          have E1 := Lib.hid (HA.out.dead_on (by omega))
          go_wp2_with (first | (go_at_call 16; refine (counts_any HW.out.disk).mono ?_; rintro e w' ⟨rfl, hq1⟩; have HQ := Lib.hid (HW.out.same hq1); clear hq1) | (go_at_call 17; refine (read_any HQ.out.disk 0).mono ?_; rintro e w' ⟨rfl, hq1⟩; rw [E0.out]; have HQ2 := Lib.hid ((HQ.out.same hq1).put Arr.zero); clear hq1) | ((with_reducible refine wc_alloc_arr secT ?_); go_frame; (try simp only [World.size_alloc])) | ((with_reducible apply wc_store_new secT); exact rfl; exact rfl; go_frame) | (go_at_call 18; (first | refine (on_any HQ2.out.disk none 0 [] (by intro j x h; simp at h) (by decide) (by simp)).mono ?_ | refine (on_any HQ.out.disk none 0 [] (by intro j x h; simp at h) (by decide) (by simp)).mono ?_); rintro e w' ⟨rfl, hq1, hq2⟩; (first | rw [E1.out.1] | rw [E1.out]); (first | have HQ3 := Lib.hid (HQ2.out.step hq1 hq2) | have HQ3 := Lib.hid (HQ.out.step hq1 hq2)); clear hq1 hq2) | (go_at_call 14; refine (flush_any HQ3.out.disk).mono ?_; rintro e w' ⟨rfl, hq1, hq2⟩; rw [E1.out.2]; have HQ4 := Lib.hid (HQ3.out.step hq1 hq2); clear hq1 hq2) | (go_at_call 19; refine (works_any _).mono ?_; rintro e w' ⟨rfl, hq1⟩; have HW4 := Lib.hid hq1; clear hq1))
          go_ret
          exact ⟨rfl, tch_own HQ4.out.tch HW4.out (by simp)⟩
        · have s1 := HA.out.sum_eq hk2 k (by omega)
          have E0 := Lib.hid (HA.out.dead_read (by omega))
          have E1 := Lib.hid (HA.out.dead_on (by omega))
          go_wp2_with (first | (go_at_call 16; refine (counts_any HW.out.disk).mono ?_; rintro e w' ⟨rfl, hq1⟩; have HQ := Lib.hid (HW.out.same hq1); clear hq1) | (go_at_call 17; refine (read_any HQ.out.disk 0).mono ?_; rintro e w' ⟨rfl, hq1⟩; rw [E0.out]; have HQ2 := Lib.hid ((HQ.out.same hq1).put Arr.zero); clear hq1) | ((with_reducible refine wc_alloc_arr secT ?_); go_frame; (try simp only [World.size_alloc])) | ((with_reducible apply wc_store_new secT); exact rfl; exact rfl; go_frame) | (go_at_call 18; (first | refine (on_any HQ2.out.disk none 0 [] (by intro j x h; simp at h) (by decide) (by simp)).mono ?_ | refine (on_any HQ.out.disk none 0 [] (by intro j x h; simp at h) (by decide) (by simp)).mono ?_); rintro e w' ⟨rfl, hq1, hq2⟩; (first | rw [E1.out.1] | rw [E1.out]); (first | have HQ3 := Lib.hid (HQ2.out.step hq1 hq2) | have HQ3 := Lib.hid (HQ.out.step hq1 hq2)); clear hq1 hq2) | (go_at_call 14; refine (flush_any HQ3.out.disk).mono ?_; rintro e w' ⟨rfl, hq1, hq2⟩; rw [E1.out.2]; have HQ4 := Lib.hid (HQ3.out.step hq1 hq2); clear hq1 hq2) | (go_at_call 19; refine (works_any _).mono ?_; rintro e w' ⟨rfl, hq1⟩; have HW4 := Lib.hid hq1; clear hq1))
          go_ret
          exact ⟨rfl, tch_own HQ4.out.tch HW4.out (by simp)⟩
    · rcases Nat.lt_trichotomy c k with hck | hck | hck
      · have s1 := HA.out.sum_eq hk2 c (by omega)
        have s2 : ¬ k < c := by omega
        have E1 := Lib.hid (HA.out.live_on hck)
        go_wp2_with (first | (go_at_call 16; refine (counts_any HW.out.disk).mono ?_; rintro e w' ⟨rfl, hq1⟩; have HQ := Lib.hid (HW.out.same hq1); clear hq1) | (go_at_call 17; refine (read_any HQ.out.disk 0).mono ?_; rintro e w' ⟨rfl, hq1⟩; rw [E0.out]; have HQ2 := Lib.hid ((HQ.out.same hq1).put Arr.zero); clear hq1) | ((with_reducible refine wc_alloc_arr secT ?_); go_frame; (try simp only [World.size_alloc])) | ((with_reducible apply wc_store_new secT); exact rfl; exact rfl; go_frame) | (go_at_call 18; (first | refine (on_any HQ2.out.disk none 0 [] (by intro j x h; simp at h) (by decide) (by simp)).mono ?_ | refine (on_any HQ.out.disk none 0 [] (by intro j x h; simp at h) (by decide) (by simp)).mono ?_); rintro e w' ⟨rfl, hq1, hq2⟩; (first | rw [E1.out.1] | rw [E1.out]); (first | have HQ3 := Lib.hid (HQ2.out.step hq1 hq2) | have HQ3 := Lib.hid (HQ.out.step hq1 hq2)); clear hq1 hq2) | (go_at_call 14; refine (flush_any HQ3.out.disk).mono ?_; rintro e w' ⟨rfl, hq1, hq2⟩; rw [E1.out.2]; have HQ4 := Lib.hid (HQ3.out.step hq1 hq2); clear hq1 hq2) | (go_at_call 19; refine (works_any _).mono ?_; rintro e w' ⟨rfl, hq1⟩; have HW4 := Lib.hid hq1; clear hq1))
        go_ret
        exact ⟨rfl, tch_own HQ3.out.tch HW4.out (by simp)⟩
      · subst hck
        have s1 := HA.out.sum_eq hk2 c (by omega)
        have s2 : ¬ c < c := by omega
        have E0 := Lib.hid (HA.out.dead_read (by omega))
        have E1 := Lib.hid (HA.out.dead_on (by omega))
        go_wp2_with (first | (go_at_call 16; refine (counts_any HW.out.disk).mono ?_; rintro e w' ⟨rfl, hq1⟩; have HQ := Lib.hid (HW.out.same hq1); clear hq1) | (go_at_call 17; refine (read_any HQ.out.disk 0).mono ?_; rintro e w' ⟨rfl, hq1⟩; rw [E0.out]; have HQ2 := Lib.hid ((HQ.out.same hq1).put Arr.zero); clear hq1) | ((with_reducible refine wc_alloc_arr secT ?_); go_frame; (try simp only [World.size_alloc])) | ((with_reducible apply wc_store_new secT); exact rfl; exact rfl; go_frame) | (go_at_call 18; (first | refine (on_any HQ2.out.disk none 0 [] (by intro j x h; simp at h) (by decide) (by simp)).mono ?_ | refine (on_any HQ.out.disk none 0 [] (by intro j x h; simp at h) (by decide) (by simp)).mono ?_); rintro e w' ⟨rfl, hq1, hq2⟩; (first | rw [E1.out.1] | rw [E1.out]); (first | have HQ3 := Lib.hid (HQ2.out.step hq1 hq2) | have HQ3 := Lib.hid (HQ.out.step hq1 hq2)); clear hq1 hq2) | (go_at_call 14; refine (flush_any HQ3.out.disk).mono ?_; rintro e w' ⟨rfl, hq1, hq2⟩; rw [E1.out.2]; have HQ4 := Lib.hid (HQ3.out.step hq1 hq2); clear hq1 hq2) | (go_at_call 19; refine (works_any _).mono ?_; rintro e w' ⟨rfl, hq1⟩; have HW4 := Lib.hid hq1; clear hq1))
        go_ret
        exact ⟨rfl, tch_own HQ4.out.tch HW4.out (by simp)⟩
      · have s1 := HA.out.sum_eq hk2 k (by omega)
        have E0 := Lib.hid (HA.out.dead_read (by omega))
        have E1 := Lib.hid (HA.out.dead_on (by omega))
        go_wp2_with (first | (go_at_call 16; refine (counts_any HW.out.disk).mono ?_; rintro e w' ⟨rfl, hq1⟩; have HQ := Lib.hid (HW.out.same hq1); clear hq1) | (go_at_call 17; refine (read_any HQ.out.disk 0).mono ?_; rintro e w' ⟨rfl, hq1⟩; rw [E0.out]; have HQ2 := Lib.hid ((HQ.out.same hq1).put Arr.zero); clear hq1) | ((with_reducible refine wc_alloc_arr secT ?_); go_frame; (try simp only [World.size_alloc])) | ((with_reducible apply wc_store_new secT); exact rfl; exact rfl; go_frame) | (go_at_call 18; (first | refine (on_any HQ2.out.disk none 0 [] (by intro j x h; simp at h) (by decide) (by simp)).mono ?_ | refine (on_any HQ.out.disk none 0 [] (by intro j x h; simp at h) (by decide) (by simp)).mono ?_); rintro e w' ⟨rfl, hq1, hq2⟩; (first | rw [E1.out.1] | rw [E1.out]); (first | have HQ3 := Lib.hid (HQ2.out.step hq1 hq2) | have HQ3 := Lib.hid (HQ.out.step hq1 hq2)); clear hq1 hq2) | (go_at_call 14; refine (flush_any HQ3.out.disk).mono ?_; rintro e w' ⟨rfl, hq1, hq2⟩; rw [E1.out.2]; have HQ4 := Lib.hid (HQ3.out.step hq1 hq2); clear hq1 hq2) | (go_at_call 19; refine (works_any _).mono ?_; rintro e w' ⟨rfl, hq1⟩; have HW4 := Lib.hid hq1; clear hq1))
        go_ret
        exact ⟨rfl, tch_own HQ4.out.tch HW4.out (by simp)⟩
end Go.Proofs.Ytpfgjopiddopbaa
