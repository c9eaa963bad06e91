/-
  The document's log: numbers written and read: ciboriumref08.put, get.
-/
import Derived.Test.YthbaipljlbddcaaGreatPut
import Derived.Test.YthbaipljlbddcaaGreatFrameW
import Derived.Test.YthbaipljlbddcaaGreatReadF
import Derived.Test.YthbaipljlbddcaaGreatBuild
import Derived.Test.YthbaipljlbddcaaGreatLawA
import Derived.Test.YthbaipljlbddcaaGreatRegion5
import Derived.Test.YthbaipljlbddcaaGreatLogP
import Derived.Test.YthbaipljlbddcaaGreatNums
import Derived.Test.YthbaipljlbddcaaGreatRegAll
namespace Go.Cib
open Go Go.RowKit
/-- The last j bytes of a number of k bytes, at a place. -/
def putB (l : List UInt8) (at_ k n j : Nat) : List UInt8 := l.take (at_ + k - j) ++ (be j n ++ l.drop (at_ + k))
theorem length_putB {l : List UInt8} {at_ k n j : Nat} (h : at_ + k ≤ l.length) (hj : j ≤ k) : (putB l at_ k n j).length = l.length := by
  unfold putB; simp; omega
theorem putB_zero (l : List UInt8) (at_ k n : Nat) : putB l at_ k n 0 = l := by
  unfold putB; simp [be]
theorem putB_step {l : List UInt8} {at_ k n j : Nat} (h : at_ + k ≤ l.length) (hj : j < k) : (putB l at_ k n j).set (at_ + (k - 1 - j)) (UInt8.ofNat (n / 256 ^ j)) = putB l at_ k n (j + 1) := by
  unfold putB
  have hlt : at_ + (k - 1 - j) < l.length := by omega
  rw [List.set_append_left _ _ (by rw [List.length_take]; omega), be_cons, show at_ + k - j = (at_ + (k - 1 - j)) + 1 by omega, List.take_add_one, List.getElem?_eq_getElem hlt, show at_ + k - (j + 1) = at_ + (k - 1 - j) by omega]
  rw [Option.toList_some, List.set_append_right _ _ (by rw [List.length_take]; omega), List.length_take, Nat.min_eq_left (by omega), Nat.sub_self, List.set_cons_zero]
  simp
end Go.Cib
namespace Go.Proofs.YthbaipljlbddcaaGreat
open Go.RowKit Go.Cib
set_option maxRecDepth 20000 in
set_option maxHeartbeats 1000000 in
theorem rput_any {w : World} {b : Nat} {e : TypeId} {l : List UInt8} (hb : w.heap[b]? = some (.cells (bytesA l) e)) (hl : l.length = 512) (at_ k n : Nat) (hk : at_ + k ≤ 512) (hk8 : k ≤ 8) (hn : n < 18446744073709551616) :
    Calls Tryz.prog 54 #[.pointer (some ⟨b, 0, none⟩), .int .i64 at_, .int .i64 k, .int .u64 n] w fun e' w' => e' = .returned (.tuple #[]) ∧ w'.heap[b]? = some (.cells (bytesA (putB l at_ k n k)) e) ∧ Tch [b] w w' := by
  have HB := Lib.hid hb
  clear hb
  go_enter Tryz.func54, Tryz.ntmps54
  go_wp2_with fail
  go_loopg [3, 8] k (fun q x i wr => ∃ j p : Nat, q = k - j ∧ j ≤ k ∧ i = .int .i64 ((k : Int) - 1 - (j : Int)) ∧ x = .int .u64 (p : Nat) ∧ p = n / 256 ^ j ∧ wr.heap[b]? = some (.cells (bytesA (putB l at_ k n j)) e) ∧ Tch [b] w wr)
  case atStart => exact ⟨0, n, rfl, Nat.zero_le _, by go_num, rfl, by simp, by rw [putB_zero]; exact HB.out, Tch.refl _ _⟩
  case round =>
    obtain ⟨j, p, rfl, hj, rfl, rfl, hp, hg, ht⟩ := hrel
    have HP := Lib.hid hp
    have HG := Lib.hid hg
    have HT := Lib.hid ht
    have hpb : p < 18446744073709551616 := by rw [hp]; exact Nat.lt_of_le_of_lt (Nat.div_le_self _ _) hn
    clear hp hg ht HB
    by_cases hjk : j < k
    · have hlr : (putB l at_ k n j).length = 512 := by rw [length_putB (by omega) hj, hl]
      have cB : wr.cell? ⟨b, at_ + (k - 1 - j), none⟩ = some (bv ((putB l at_ k n j).getD (at_ + (k - 1 - j)) 0)) := by
        rw [cell_of_row wr b _ _ _ _ HG.out, bytesA_get, List.getD_eq_getElem?_getD, List.getElem?_eq_getElem (by omega)]
        rfl
      have fB := frozen_of_row wr b (at_ + (k - 1 - j)) _ _ HG.out
      have hstep : (bytesA (putB l at_ k n j)).setIfInBounds (at_ + (k - 1 - j)) (.int .u8 ((p : Int) % 256)) = bytesA (putB l at_ k n (j + 1)) := by
        have e : Value.int .u8 ((p : Int) % 256) = bv (UInt8.ofNat (n / 256 ^ j)) := by
          unfold bv; rw [toNat_ofNat8, ← HP.out]; rfl
        rw [e, bytesA_set, putB_step (by omega) hjk]
      have HST := Lib.hid hstep
      obtain ⟨i0, hi0⟩ : ∃ i0 : Nat, k - 1 - j = i0 := ⟨_, rfl⟩
      rw [hi0] at cB fB HST
      have hi1 : (k : Int) - 1 - (j : Int) = (i0 : Int) := by omega
      rw [hi1]
      have hii : at_ + i0 < 512 := by omega
      clear hlr hstep hi1
      go_wp2_with fail
      go_roundg (k - (j + 1))
      case measure => omega
      case rel =>
        refine ⟨j + 1, p / 256, rfl, by omega, ?_, by go_num, ?_, ?_, HT.out.setCell (.inl (by simp)) _⟩
        · congr 1; omega
        · rw [HP.out, Nat.div_div_eq_div_mul, Nat.pow_succ]
        · rw [heap_setCell_cells HG.out, HST.out]
    · have hjk2 : j = k := by omega
      subst hjk2
      go_wp2_with fail
      go_end0
      exact ⟨rfl, HG.out, HT.out⟩
set_option maxRecDepth 20000 in
set_option maxHeartbeats 1000000 in
theorem rget_any {w : World} {b : Nat} {e : TypeId} {l : List UInt8} (hb : w.heap[b]? = some (.cells (bytesA l) e)) (hl : l.length = 512) (at_ k : Nat) (hk : at_ + k ≤ 512) (hk8 : k ≤ 8) :
    Calls Tryz.prog 84 #[.pointer (some ⟨b, 0, none⟩), .int .i64 at_, .int .i64 k] w fun e' w' => e' = .returned (.int .u64 (beVal ((l.drop at_).take k))) ∧ w = w' := by
  have HB := Lib.hid hb
  clear hb
  go_enter Tryz.func84, Tryz.ntmps84
  go_wp2_with fail
  obtain ⟨m, hm⟩ : ∃ m, (l.drop at_).take k = m := ⟨_, rfl⟩
  have hml : m.length = k := by rw [← hm, List.length_take, List.length_drop]; omega
  have HMM := Lib.hid hm
  clear hm
  go_loopg [7, 8] k (fun q v i wr => ∃ j p, OnAt k i q j ∧ v = .int .u64 (p : Nat) ∧ p = beVal (m.take j) ∧ w = wr)
  case atStart => exact ⟨0, 0, ⟨Nat.zero_le _, rfl, rfl⟩, rfl, rfl, rfl⟩
  case round =>
    obtain ⟨j, p, ⟨hj, rfl, rfl⟩, rfl, hp, rfl⟩ := hrel
    have hpb : p < 256 ^ j := by
      rw [hp]
      have := beVal_lt (m.take j)
      have hl : (m.take j).length = j := by rw [List.length_take]; omega
      rwa [hl] at this
    have HP := Lib.hid hp
    clear hp
    by_cases hjn : j < k
    · obtain ⟨x, hx⟩ : ∃ x, m[j]? = some x := ⟨_, List.getElem?_eq_getElem (by omega)⟩
      have hx2 : l[at_ + j]? = some x := by
        have h1 := hx
        rw [← HMM.out, List.getElem?_take, if_pos hjn, List.getElem?_drop] at h1
        exact h1
      have hc : w.cell? ⟨b, at_ + j, none⟩ = some (.int .u8 x.toNat) := by
        rw [cell_of_row w b _ _ _ _ HB.out, bytesA_get, hx2]; rfl
      have hp56 : p < 72057594037927936 := Nat.lt_of_lt_of_le hpb (Nat.pow_le_pow_right (by omega) (show j ≤ 7 by omega))
      have hxb := x.toNat_lt
      have HX := Lib.hid hx
      clear hx hpb hx2
      have hor : bits BinOp.or IntKind.u64 ((p : Int) * 256) ((x.toNat : Nat) : Int) = ((p * 256 + x.toNat : Nat) : Int) := by
        have h1 := u64_or_nat (p * 256) x.toNat (by omega) (by omega)
        rw [nat_join 8 (p * 256) x.toNat (by omega) (by omega)] at h1
        exact h1
      have HOR := Lib.hid hor
      clear hor
      go_wp2_with fail
      go_roundg (k - (j + 1))
      case measure => omega
      case rel =>
        refine ⟨j + 1, p * 256 + x.toNat, ⟨by omega, by go_num, rfl⟩, by rw [HOR.out], ?_, rfl⟩
        have hx : m[j]? = some x := HX.out
        rw [List.take_add_one, hx, Option.toList_some, beVal_snoc, ← HP.out]
    · have hq : m.take j = m := List.take_of_length_le (by omega)
      have hp2 : p = beVal m := by rw [HP.out, hq]
      have HP2 := Lib.hid hp2
      clear hpb HP hq hp2
      go_wp2_with fail
      go_ret
      exact ⟨by rw [HMM.out, ← HP2.out]; rfl, rfl⟩
end Go.Proofs.YthbaipljlbddcaaGreat
/-
  The document's log: the check of a sector: ciboriumref08.Check.
-/
namespace Go.Cib
open Go Go.RowKit
/-- The check's bytes, all of them counted. -/
def crcZ (l : List UInt8) : Nat → Nat
  | 0 => 4294967295
  | i + 1 => crcBits 8 (crcZ l i ^^^ (l.getD i 0).toNat)
theorem crcZ_lt (l : List UInt8) : ∀ i, crcZ l i < 4294967296
  | 0 => by unfold crcZ; omega
  | i + 1 => by
    unfold crcZ
    have h2 := (l.getD i 0).toNat_lt
    exact crcBits_lt (xor_lt32 (crcZ_lt l i) (by omega)) 8
theorem crcZ_eq {l m : List UInt8} (h1 : ∀ i, i < 28 ∨ 32 ≤ i → m.getD i 0 = l.getD i 0) (h2 : ∀ i, 28 ≤ i → i < 32 → m.getD i 0 = 0) : ∀ i, crcZ m i = crcTo l i
  | 0 => rfl
  | i + 1 => by
    rw [crcZ, crcTo, crcZ_eq h1 h2 i]
    by_cases h : i < 28 ∨ 32 ≤ i
    · rw [if_pos h, h1 i h]
    · rw [if_neg h, h2 i (by omega) (by omega)]
      simp
theorem getD_putB_out {l : List UInt8} {at_ k n : Nat} (h : at_ + k ≤ l.length) {i : Nat} (hi : i < at_ ∨ at_ + k ≤ i) : (putB l at_ k n k).getD i 0 = l.getD i 0 := by
  unfold putB
  rw [List.getD_eq_getElem?_getD, List.getD_eq_getElem?_getD]
  congr 1
  rcases hi with hi | hi
  · rw [List.getElem?_append_left (by rw [List.length_take]; omega), List.getElem?_take, if_pos (by omega)]
  · rw [List.getElem?_append_right (by rw [List.length_take]; omega), List.length_take, List.getElem?_append_right (by rw [length_be]; omega), length_be, List.getElem?_drop]
    congr 1
    omega
theorem be_zero : ∀ k : Nat, be k 0 = List.replicate k 0
  | 0 => rfl
  | k + 1 => by rw [be, Nat.zero_div, be_zero k, List.replicate_succ']; rfl
theorem getD_putB_zero {l : List UInt8} {at_ k : Nat} (h : at_ + k ≤ l.length) {i : Nat} (h1 : at_ ≤ i) (h2 : i < at_ + k) : (putB l at_ k 0 k).getD i 0 = 0 := by
  unfold putB
  rw [List.getD_eq_getElem?_getD, List.getElem?_append_right (by rw [List.length_take]; omega), List.length_take, List.getElem?_append_left (by rw [length_be]; omega), be_zero, List.getElem?_replicate]
  split <;> rfl
theorem crcZ_put {l : List UInt8} (h : l.length = 512) : crcZ (putB l 28 4 0 4) 512 = crcTo l 512 :=
  crcZ_eq (fun i hi => getD_putB_out (by omega) (by omega)) (fun i h1 h2 => getD_putB_zero (by omega) h1 (by omega)) 512
end Go.Cib
namespace Go.Proofs.YthbaipljlbddcaaGreat
open Go.RowKit Go.Cib
set_option maxRecDepth 20000 in
set_option maxHeartbeats 1000000 in
theorem rcheck_any (s : Sec) (w : World) : Calls Tryz.prog 55 #[.agg (secA s)] w fun e w' => e = .returned (.int .u32 (crcOf s.l)) ∧ Tch [] w w' := by
  have ht : Tch [] w (w.alloc (.cells (secA s) 26)) := (Tch.refl _ _).alloc _
  have hb : (w.alloc (.cells (secA s) 26)).heap[w.heap.size]? = some (.cells (bytesA s.l) 26) := heap_alloc_new _ _
  have HT := Lib.hid ht
  have HB := Lib.hid hb
  clear ht hb
  go_enter Tryz.func55, Tryz.ntmps55
  go_upto_region 1 with ((with_reducible refine wc_box_agg ?_ ?_); exact rfl; go_frame)
  generalize w.alloc (.cells (secA s) 26) = w1 at *
  obtain ⟨B, hB⟩ : ∃ B, w.heap.size = B := ⟨_, rfl⟩
  rw [hB] at HB ⊢
  have HW : Hid (w.heap.size ≤ B) := by show _ ≤ _; omega
  clear hB
  go_wp2_with fail
  refine (rput_any HB.out s.h 28 4 0 (by omega) (by omega) (by omega)).mono ?_
  rintro e w2 ⟨rfl, h2, t2⟩
  have hz := crcZ_put s.h
  have hm : (putB s.l 28 4 0 4).length = 512 := by rw [length_putB (by rw [s.h]; omega) (Nat.le_refl _), s.h]
  obtain ⟨m, hmm⟩ : ∃ m, putB s.l 28 4 0 4 = m := ⟨_, rfl⟩
  rw [hmm] at h2 hz hm
  have H2 := Lib.hid h2
  have T2 := Lib.hid (tch_own HT.out t2 (by have := HW.out; simp; omega))
  have HZ := Lib.hid hz
  clear h2 t2 hz hmm HT HB
  go_wp2_with fail
  go_loopg [3, 4, 5] 512 (fun q c i _ wr => ∃ j, OnAt 512 i q j ∧ c = .int .u32 (crcZ m j) ∧ w2 = wr)
  case atStart => exact ⟨0, ⟨Nat.zero_le _, rfl, rfl⟩, rfl, rfl⟩
  case round =>
    obtain ⟨j, ⟨hj, rfl, rfl⟩, rfl, rfl⟩ := hrel
    have hc := crcZ_lt m j
    have hcs : crcZ m (j + 1) = crcBits 8 (crcZ m j ^^^ (m.getD j 0).toNat) := rfl
    by_cases hjn : j < 512
    · have cB : w2.cell? ⟨B, j, none⟩ = some (.int .u8 (m.getD j 0).toNat) := by
        rw [cell_of_row w2 B j _ _ _ H2.out, bytesA_get, List.getD_eq_getElem?_getD, List.getElem?_eq_getElem (by omega)]; rfl
      have hb := (m.getD j 0).toNat_lt
      generalize (m.getD j 0).toNat = b at *
      generalize crcZ m j = c0 at *
      have hX := Lib.hid (u32_xor_nat c0 b hc (by omega))
      have hXl : c0 ^^^ b < 4294967296 := xor_lt32 hc (by omega)
      obtain ⟨X0, hX0⟩ : ∃ X0, c0 ^^^ b = X0 := ⟨_, rfl⟩
      rw [hX0] at hX hXl hcs
      have HCS := Lib.hid hcs
      clear hcs hX0 hc
      go_wp2_with fail
      rw [hX.out]
      go_loopg [3, 5] 8 (fun q c k wr => ∃ i, OnAt 8 k q i ∧ c = .int .u32 (crcBits i X0) ∧ w2 = wr)
      case atStart => exact ⟨0, ⟨Nat.zero_le _, rfl, rfl⟩, rfl, rfl⟩
      case round =>
        obtain ⟨i, ⟨hi, rfl, rfl⟩, rfl, rfl⟩ := hrel
        have hk := crcBits_lt hXl i
        have HKS : Hid (crcBits (i + 1) X0 = crcBit (crcBits i X0)) := (rfl : crcBits (i + 1) X0 = _)
        by_cases hin : i < 8
        · generalize crcBits i X0 = c1 at *
          by_cases hm : c1 % 2 = 1
          · have g1 : (bits BinOp.and IntKind.u32 (c1 : Int) 1 == 1) = true := by
              rw [show (1 : Int) = ((1 : Nat) : Int) from rfl, u32_and_nat c1 1 hk (by omega), nat_mask1]; simp; omega
            have g2 : Hid (bits BinOp.xor IntKind.u32 ((c1 : Int) / 2) 2197175160 = ((crcBit c1 : Nat) : Int)) := by
              have h := u32_xor_nat (c1 / 2) 2197175160 (by omega) (by omega)
              unfold crcBit; rw [if_pos hm]; exact h
            clear hm
            go_wp2_with fail
            go_roundg (8 - (i + 1))
            case measure => omega
            case rel => exact ⟨i + 1, ⟨by omega, by go_num, rfl⟩, by rw [g2.out, HKS.out], rfl⟩
          · have g1 : (bits BinOp.and IntKind.u32 (c1 : Int) 1 == 1) = false := by
              rw [show (1 : Int) = ((1 : Nat) : Int) from rfl, u32_and_nat c1 1 hk (by omega), nat_mask1]; simp; omega
            have g2 : Hid ((c1 : Int) / 2 = ((crcBit c1 : Nat) : Int)) := by
              unfold crcBit; rw [if_neg hm]; exact (rfl : ((c1 : Int) / 2) = _)
            clear hm
            go_wp2_with fail
            go_roundg (8 - (i + 1))
            case measure => omega
            case rel => exact ⟨i + 1, ⟨by omega, by go_num, rfl⟩, by rw [g2.out, HKS.out], rfl⟩
        · have hi8 : i = 8 := by omega
          subst hi8
          go_wp2_with fail
          go_roundg (512 - (j + 1))
          case measure => omega
          case rel => exact ⟨j + 1, ⟨by omega, by go_num, rfl⟩, by rw [HCS.out], rfl⟩
    · have hj5 : j = 512 := by omega
      subst hj5
      have hx := Lib.hid (u32_xor_nat (crcZ m 512) 4294967295 hc (by omega))
      have hfin : crcOf s.l = crcZ m 512 ^^^ 4294967295 := by
        unfold crcOf
        rw [s.h, ← HZ.out, Nat.xor_comm]
      have HF := Lib.hid hfin
      clear hfin hc hcs
      generalize crcZ m 512 = c9 at *
      go_wp2_with fail
      go_ret
      refine ⟨?_, T2.out⟩
      rw [HF.out, ← hx.out]
      rfl
end Go.Proofs.YthbaipljlbddcaaGreat
/-
  The document's log: frames as sectors: ciboriumref08.Sector.
-/
namespace Go.Cib
open Go Go.RowKit
/-- What lies in the sector when so many of the page's bytes are laid. -/
def laidS (f : FrameV) (j : Nat) : List UInt8 := f.head ++ ([0, 0, 0, 0] ++ (f.page.l.take j ++ List.replicate (480 - j) 0))
theorem length_laidS (f : FrameV) {j : Nat} (h : j ≤ 480) : (laidS f j).length = 512 := by
  unfold laidS
  simp [FrameV.length_head, f.page.h]
  omega
theorem laidS_full (f : FrameV) : laidS f 480 = f.with_ [0, 0, 0, 0] := by
  unfold laidS FrameV.with_
  rw [List.take_of_length_le (by rw [f.page.h]; exact Nat.le_refl _)]
  simp
theorem laidS_step (f : FrameV) {j : Nat} (h : j < 480) : (laidS f j).set (32 + j) (f.page.l.getD j 0) = laidS f (j + 1) := by
  unfold laidS
  have hj : j < f.page.l.length := by rw [f.page.h]; exact h
  rw [List.set_append_right _ _ (by rw [FrameV.length_head]; omega), FrameV.length_head, List.set_append_right _ _ (by simp; omega), List.set_append_right _ _ (by simp; omega)]
  congr 2
  rw [List.take_add_one, List.getElem?_eq_getElem hj, List.length_take, Nat.min_eq_left (by omega)]
  have e1 : 32 + j - 28 - [0, 0, 0, (0 : UInt8)].length - j = 0 := by simp; omega
  rw [e1, show 480 - j = (480 - (j + 1)) + 1 by omega, List.replicate_succ, List.set_cons_zero, List.getD_eq_getElem?_getD, List.getElem?_eq_getElem hj, List.append_assoc]
  rfl
/-- The sector of a frame, but for its check. -/
theorem sector_put (f : FrameV) : putB (f.with_ [0, 0, 0, 0]) 28 4 f.check 4 = f.sector.l := by
  unfold putB
  show _ = f.with_ (be 4 f.check)
  unfold FrameV.with_
  rw [show 28 + 4 - 4 = 28 by omega, List.take_left' (FrameV.length_head f), show 28 + 4 = 28 + 4 from rfl, ← List.drop_drop, List.drop_left' (FrameV.length_head f)]
  rfl
theorem rep_add (a b : Nat) : List.replicate (a + b) (0 : UInt8) = List.replicate a 0 ++ List.replicate b 0 := by
  induction a with
  | zero => simp
  | succ a ih => rw [show a + 1 + b = (a + b) + 1 by omega, List.replicate_succ, ih, List.replicate_succ]; rfl
theorem putB_next {p : List UInt8} {at_ : Nat} (hp : p.length = at_) (k n m : Nat) : putB (p ++ List.replicate (k + m) 0) at_ k n k = (p ++ be k n) ++ List.replicate m 0 := by
  unfold putB
  rw [show at_ + k - k = at_ by omega, List.take_left' hp, ← List.drop_drop, List.drop_left' hp, List.drop_replicate, show k + m - k = m by omega, List.append_assoc]
theorem head_puts (f : FrameV) : putB (putB (putB ([99, 105, 98, 111, f.kind] ++ List.replicate 507 0) 8 8 f.gen 8) 16 8 f.num 8) 24 4 f.idx 4 = laidS f 0 := by
  have e0 : ([99, 105, 98, 111, f.kind] ++ List.replicate 507 0 : List UInt8) = [99, 105, 98, 111, f.kind, 0, 0, 0] ++ List.replicate (8 + 496) 0 := by
    rw [show (507 : Nat) = 3 + (8 + 496) from rfl, rep_add 3]; rfl
  rw [e0, putB_next (at_ := 8) (show _ = 8 from rfl), show (496 : Nat) = 8 + 488 from rfl, putB_next (by simp), show (488 : Nat) = 4 + 484 from rfl, putB_next (by simp), show (484 : Nat) = 4 + 480 from rfl, rep_add]
  unfold laidS FrameV.head
  simp only [List.append_assoc, List.take_zero, List.nil_append, Nat.sub_zero]
  rfl
end Go.Cib
/-
  The document's log: frames as sectors, and read: the walks of ciboriumref08.Sector, Read.
-/
namespace Go.Cib
open Go Go.RowKit
section
variable {P : Program} {T e : TypeId} {ops : Array Oper} {rest : List Oper} {a : Act} {w : World} {Q : Exit → Act → World → Prop} {dst : Option Tmp} {ty : TypeId} {pos : String} {af : Array Edge} {x y : Operand}
/-- One byte is stored. -/
theorem exec_store_byte (hT : (P.info? T).map (·.size) = some 1) {b i : Nat} {l : List UInt8} {u : UInt8} {o : Oper} (ho : o.op = .store T x y) (hb : w.heap[b]? = some (.cells (bytesA l) e)) (hi : i < l.length) (hx : a.eval x = .pointer (some ⟨b, i, none⟩)) (hy : a.eval y = .int .u8 u.toNat) :
    (execOp a.eval o).run P w = .ok .skip (w.setRow b (bytesA (l.set i u))) := by
  obtain ⟨inf, h1, h2⟩ := Option.map_eq_some_iff.1 hT
  have hst := run_storeCells_at P b i e [bv u] 0 (bytesA l) w hb (by simp [bytesA]; omega) (by intro v hv; rw [List.mem_singleton.1 hv]; rfl)
  simp only [Nat.add_zero] at hst
  have hs : spl (bytesA l) i #[bv u] = bytesA (l.set i u) := by
    rw [spl_one _ _ _ (by simp [bytesA]; exact hi), bytesA_set]
  have hrun : (storeVar T ⟨b, i, none⟩ (bv u)).run P w = .ok () (w.setRow b (bytesA (l.set i u))) := by
    rw [← hs]
    simp only [storeVar, sizeOf, typeInfo]
    simp [Sem.run_bind, h1, h2, bv, Value.cells, spl] at hst ⊢
    exact hst
  unfold execOp
  have hy' : a.eval y = bv u := hy
  simp [ho, hx, hy', Instr.storeAt, Instr.sureAddr, hrun]
theorem wc_store_byte (hT : (P.info? T).map (·.size) = some 1) {b i : Nat} {l : List UInt8} {u : UInt8} (hb : w.heap[b]? = some (.cells (bytesA l) e)) (hi : i < l.length) (hx : a.eval x = .pointer (some ⟨b, i, none⟩)) (hy : a.eval y = .int .u8 u.toNat)
    (h : ∀ w', w'.heap[b]? = some (.cells (bytesA (l.set i u)) e) → Tch [b] w w' → wpList P ops Q rest (a.put dst undef) w') : wpList P ops Q (⟨dst, .store T x y, ty, pos, af, none⟩ :: rest) a w :=
  wc_done rfl (exec_store_byte hT rfl hb hi hx hy) (h _ (setRow_heap _ _ _ _ _ _ hb) ((Tch.refl _ _).setRow (.inl (by simp)) _))
end
end Go.Cib
namespace Go.Proofs.YthbaipljlbddcaaGreat
open Go.RowKit Go.Cib
theorem byte1 : (Tryz.prog.info? 5).map (·.size) = some 1 := by kernel_rfl
theorem frame_cells {w : World} {b : Nat} {f : FrameV} {e : TypeId} {fr : Nat × Nat} (h : w.heap[b]? = some (.cells (frameA f) e fr)) :
    w.cell? ⟨b, 0, none⟩ = some (.int .u8 f.kind.toNat) ∧ w.cell? ⟨b, 1, none⟩ = some (.int .u64 f.gen) ∧ w.cell? ⟨b, 2, none⟩ = some (.int .u64 f.num) ∧ w.cell? ⟨b, 3, none⟩ = some (.int .u32 f.idx) ∧ ∀ i : Nat, i < 480 → w.cell? ⟨b, 4 + i, none⟩ = some (.int .u8 (f.page.l.getD i 0).toNat) := by
  refine ⟨by rw [cell_of_row w b 0 _ _ _ h]; simp [frameA, bv], by rw [cell_of_row w b 1 _ _ _ h]; simp [frameA], by rw [cell_of_row w b 2 _ _ _ h]; simp [frameA], by rw [cell_of_row w b 3 _ _ _ h]; simp [frameA], fun i hi => ?_⟩
  rw [cell_of_row w b (4 + i) _ _ _ h]
  unfold frameA
  rw [Array.getElem?_append_right (by simp)]
  have e1 : 4 + i - (#[bv f.kind, Value.int .u64 f.gen, .int .u64 f.num, .int .u32 f.idx] : Array Value).size = i := by simp
  rw [e1]
  have hl : i < f.page.l.length := by rw [f.page.h]; exact hi
  show (bytesA f.page.l)[i]? = _
  rw [bytesA_get, List.getElem?_eq_getElem hl, List.getD_eq_getElem?_getD, List.getElem?_eq_getElem hl]
  rfl
set_option maxRecDepth 20000 in
set_option maxHeartbeats 4000000 in
theorem rsector_any (f : FrameV) (hf : f.Ok) (w : World) : Calls Tryz.prog 22 #[.agg (frameA f)] w fun e w' => e = .returned (.agg (secA f.sector)) ∧ Tch [] w w' := by
  go_enter Tryz.func22, Tryz.ntmps22
  go_upto_region 2 with (first | ((with_reducible refine wc_box_agg ?_ ?_); exact rfl; go_frame) | ((with_reducible refine wc_alloc_arr secT ?_); go_frame; (try simp only [World.size_alloc])))
  have ta : Tch [] w (w.alloc (.cells (frameA f) 75)) := (Tch.refl _ _).alloc _
  have ha : (w.alloc (.cells (frameA f) 75)).heap[w.heap.size]? = some (.cells (frameA f) 75) := heap_alloc_new _ _
  have za : (w.alloc (.cells (frameA f) 75)).heap.size = w.heap.size + 1 := World.size_alloc _ _
  generalize w.alloc (.cells (frameA f) 75) = wa at *
  have tb : Tch [] wa (wa.alloc (.cells (secA (Arr.zero : Sec)) 26)) := (Tch.refl _ _).alloc _
  have hb : (wa.alloc (.cells (secA (Arr.zero : Sec)) 26)).heap[wa.heap.size]? = some (.cells (secA (Arr.zero : Sec)) 26) := heap_alloc_new _ _
  have zb : (wa.alloc (.cells (secA (Arr.zero : Sec)) 26)).heap.size = wa.heap.size + 1 := World.size_alloc _ _
  generalize wa.alloc (.cells (secA (Arr.zero : Sec)) 26) = wb at *
  have tc : Tch [] wb (wb.alloc (.cells (secA (Arr.zero : Sec)) 26)) := (Tch.refl _ _).alloc _
  have hc : (wb.alloc (.cells (secA (Arr.zero : Sec)) 26)).heap[wb.heap.size]? = some (.cells (bytesA (List.replicate 512 0)) 26) := heap_alloc_new _ _
  generalize wb.alloc (.cells (secA (Arr.zero : Sec)) 26) = w1 at *
  have FB := Lib.hid (tc.heap (tb.heap ha (by simp)) (by simp))
  have RB := Lib.hid (tc.heap hb (by simp))
  rw [zb, za] at hc
  rw [za] at RB
  have S0 := Lib.hid hc
  have T1 := Lib.hid ((ta.trans tb).trans tc)
  have TZ := Lib.hid (Tch.refl [w.heap.size + 1 + 1] w1)
  clear ta tb tc ha hb hc za zb wa wb
  obtain ⟨B, hB⟩ : ∃ B, w.heap.size = B := ⟨_, rfl⟩
  rw [hB] at FB RB S0 TZ ⊢
  have HW : Hid (w.heap.size ≤ B) := by show _ ≤ _; omega
  clear hB
  go_upto_region 6 with (first | ((with_reducible refine wc_store_byte byte1 S0.out (i := 0) (u := 99) ?_ ?_ ?_ (fun w' h' t' => ?_)); (simp); exact rfl; exact rfl; have S1 := Lib.hid h'; have TZ1 := Lib.hid (TZ.out.trans t'); clear h' t' S0 TZ; go_frame) | ((with_reducible refine wc_store_byte byte1 S1.out (i := 1) (u := 105) ?_ ?_ ?_ (fun w' h' t' => ?_)); (simp); exact rfl; exact rfl; have S2 := Lib.hid h'; have TZ2 := Lib.hid (TZ1.out.trans t'); clear h' t' S1 TZ1; go_frame) | ((with_reducible refine wc_store_byte byte1 S2.out (i := 2) (u := 98) ?_ ?_ ?_ (fun w' h' t' => ?_)); (simp); exact rfl; exact rfl; have S3 := Lib.hid h'; have TZ3 := Lib.hid (TZ2.out.trans t'); clear h' t' S2 TZ2; go_frame) | ((with_reducible refine wc_store_byte byte1 S3.out (i := 3) (u := 111) ?_ ?_ ?_ (fun w' h' t' => ?_)); (simp); exact rfl; exact rfl; have S4 := Lib.hid h'; have TZ4 := Lib.hid (TZ3.out.trans t'); clear h' t' S3 TZ3; go_frame))
  have hl4 : ((((List.replicate 512 (0 : UInt8)).set 0 99).set 1 105).set 2 98).set 3 111 = [99, 105, 98, 111] ++ List.replicate 508 0 := by
    rw [show (512 : Nat) = 4 + 508 from rfl, rep_add]; rfl
  have H4 := S4.out
  rw [hl4] at H4
  have S5 := Lib.hid H4
  clear hl4 H4 S4
  obtain ⟨k0, k1, k2, k3, kp⟩ := frame_cells (TZ4.out.heap FB.out (by simp; omega))
  go_upto_region 7 with ((with_reducible refine wc_store_byte byte1 S5.out (i := 4) (u := f.kind) ?_ ?_ ?_ (fun w'' h' t' => ?_)); (simp); exact rfl; exact rfl; have S6 := Lib.hid h'; have TZ5 := Lib.hid (TZ4.out.trans t'); clear h' t' S5 TZ4; go_frame)
  have hl5 : ([99, 105, 98, 111] ++ List.replicate 508 (0 : UInt8)).set 4 f.kind = [99, 105, 98, 111, f.kind] ++ List.replicate 507 0 := by
    rw [show (508 : Nat) = 1 + 507 from rfl, rep_add]; rfl
  have H6 := S6.out
  rw [hl5] at H6
  have S7 := Lib.hid H6
  clear hl5 H6 S6 k0 k1 k2 k3 kp
  obtain ⟨l0, hl0⟩ : ∃ l0, [99, 105, 98, 111, f.kind] ++ List.replicate 507 (0 : UInt8) = l0 := ⟨_, rfl⟩
  have z0 : l0.length = 512 := by rw [← hl0]; simp
  have HL0 := Lib.hid hl0
  rw [hl0] at S7
  clear hl0
  obtain ⟨k0, k1, k2, k3, kp⟩ := frame_cells (TZ5.out.heap FB.out (by simp; omega))
  go_wp2_with fail
  refine (rput_any S7.out z0 8 8 f.gen (by omega) (by omega) hf.gen).mono ?_
  rintro e w3 ⟨rfl, h3, t3⟩
  have S8 := Lib.hid h3
  have TZ6 := Lib.hid (TZ5.out.trans t3)
  have z1 : (putB l0 8 8 f.gen 8).length = 512 := by rw [length_putB (by omega) (by omega), z0]
  clear h3 t3 S7 TZ5 k0 k1 k2 k3 kp
  obtain ⟨k0, k1, k2, k3, kp⟩ := frame_cells (TZ6.out.heap FB.out (by simp; omega))
  go_wp2_with fail
  refine (rput_any S8.out z1 16 8 f.num (by omega) (by omega) hf.num).mono ?_
  rintro e w4 ⟨rfl, h4, t4⟩
  have S9 := Lib.hid h4
  have TZ7 := Lib.hid (TZ6.out.trans t4)
  have z2 : (putB (putB l0 8 8 f.gen 8) 16 8 f.num 8).length = 512 := by rw [length_putB (by omega) (by omega), z1]
  clear h4 t4 S8 TZ6 k0 k1 k2 k3 kp
  obtain ⟨k0, k1, k2, k3, kp⟩ := frame_cells (TZ7.out.heap FB.out (by simp; omega))
  have hidx := hf.idx
  go_wp2_with fail
  refine (rput_any S9.out z2 24 4 f.idx (by omega) (by omega) (by omega)).mono ?_
  rintro e w5 ⟨rfl, h5, t5⟩
  rw [← HL0.out, head_puts] at h5
  have SA := Lib.hid h5
  have TZ8 := Lib.hid (TZ7.out.trans t5)
  clear h5 t5 S9 TZ7 k0 k1 k2 k3 kp z0 z1 z2 HL0
  go_wp2_with fail
  go_loopg [4] 480 (fun q i wr => ∃ j, OnAt 480 i q j ∧ wr.heap[B + 1 + 1]? = some (.cells (bytesA (laidS f j)) 26) ∧ Tch [B + 1 + 1] w1 wr)
  case atStart => exact ⟨0, ⟨Nat.zero_le _, rfl, rfl⟩, SA.out, TZ8.out⟩
  case round =>
    obtain ⟨j, ⟨hj, rfl, rfl⟩, hs, ht⟩ := hrel
    have SR := Lib.hid hs
    have TR := Lib.hid ht
    clear hs ht SA TZ8
    by_cases hj4 : j < 480
    · obtain ⟨k0, k1, k2, k3, kp⟩ := frame_cells (TR.out.heap FB.out (by simp; omega))
      have kj := kp j hj4
      have hz := length_laidS f (Nat.le_of_lt hj4)
      have hst := laidS_step f hj4
      have HST := Lib.hid hst
      clear k0 k1 k2 k3 kp hst
      go_wp2_with ((with_reducible refine wc_store_byte byte1 SR.out (i := 32 + j) (u := f.page.l.getD j 0) ?_ ?_ ?_ (fun w9 h' t' => ?_)); (rw [hz]; omega); exact rfl; exact rfl; have S9 := Lib.hid h'; have T9 := Lib.hid (TR.out.trans t'); clear h' t'; go_frame)
      go_roundg (480 - (j + 1))
      case measure => omega
      case rel =>
        have h9 := S9.out
        rw [HST.out] at h9
        exact ⟨j + 1, ⟨by omega, by go_num, rfl⟩, h9, T9.out⟩
    · have hj5 : j = 480 := by omega
      subst hj5
      have hs := SR.out
      rw [laidS_full] at hs
      obtain ⟨s0, hs0⟩ : ∃ s0 : Sec, s0.l = f.with_ [0, 0, 0, 0] := ⟨⟨f.with_ [0, 0, 0, 0], by simp [FrameV.with_, FrameV.length_head, f.page.h]⟩, rfl⟩
      rw [← hs0] at hs
      have SV := Lib.hid (show wr.heap[B + 1 + 1]? = some (.cells (secA s0) 26) from hs)
      have S0' := Lib.hid hs0
      clear hs hs0 SR
      go_wp2_with ((with_reducible apply wc_load_var secT SV.out); exact rfl; go_frame)
      refine (rcheck_any s0 wr).mono ?_
      rintro e w6 ⟨rfl, t6⟩
      have hck : crcOf s0.l = f.check := by rw [S0'.out]; rfl
      rw [hck]
      have S6 := Lib.hid (t6.heap SV.out (by simp))
      have T6 := Lib.hid (TR.out.trans (t6.mono (by simp)))
      have hcl : f.check < 4294967296 := crcOf_lt _
      clear t6 SV TR hck
      go_wp2_with fail
      refine (rput_any (show w6.heap[B + 1 + 1]? = some (.cells (bytesA s0.l) 26) from S6.out) s0.h 28 4 f.check (by omega) (by omega) (by omega)).mono ?_
      rintro e w7 ⟨rfl, h7, t7⟩
      rw [S0'.out, sector_put] at h7
      have S7 := Lib.hid (show w7.heap[B + 1 + 1]? = some (.cells (secA f.sector) 26) from h7)
      have T7 := Lib.hid (T6.out.trans t7)
      have R7 := Lib.hid (T7.out.heap RB.out (by simp))
      clear h7 t7 S6 T6
      go_wp2_with (first | ((with_reducible apply wc_load_var secT S7.out); exact rfl; go_frame) | ((with_reducible apply wc_store_var secT R7.out); exact rfl; exact rfl; go_frame))
      refine bodyPost_ret (res_cell secT.agg rfl _ rfl (setRow_heap _ _ _ _ _ _ R7.out) (size_secA _)) rfl ?_
      refine ⟨rfl, ?_⟩
      refine tch_own T1.out (S := [B + 1, B + 1 + 1]) ((T7.out.mono (by simp)).trans ((Tch.refl _ _).setRow (.inl (by simp)) _)) ?_
      have := HW.out
      simp
      omega
end Go.Proofs.YthbaipljlbddcaaGreat
/-
  The document's log: a sector is read: ciboriumref08.Read.
-/
namespace Go.Cib
open Go Go.RowKit
section
variable {P : Program} {T e : TypeId} {ops : Array Oper} {rest : List Oper} {a : Act} {w : World} {Q : Exit → Act → World → Prop} {dst : Option Tmp} {ty : TypeId} {pos : String} {af : Array Edge} {x y : Operand}
/-- One cell is stored. -/
theorem exec_store_cell (hT : (P.info? T).map (·.size) = some 1) {b i : Nat} {c : Array Value} {v : Value} (h1 : v.cells = #[v]) (h2 : v.oneCell' = true) {o : Oper} (ho : o.op = .store T x y) (hb : w.heap[b]? = some (.cells c e)) (hi : i < c.size) (hx : a.eval x = .pointer (some ⟨b, i, none⟩)) (hy : a.eval y = v) :
    (execOp a.eval o).run P w = .ok .skip (w.setRow b (c.setIfInBounds i v)) := by
  obtain ⟨inf, g1, g2⟩ := Option.map_eq_some_iff.1 hT
  have hst := run_storeCells_at P b i e [v] 0 c w hb (by simp; omega) (by intro u hu; rw [List.mem_singleton.1 hu]; exact h2)
  simp only [Nat.add_zero] at hst
  have hs : spl c i #[v] = c.setIfInBounds i v := spl_one _ _ _ hi
  have hrun : (storeVar T ⟨b, i, none⟩ v).run P w = .ok () (w.setRow b (c.setIfInBounds i v)) := by
    rw [← hs]
    simp only [storeVar, sizeOf, typeInfo]
    simp [Sem.run_bind, g1, g2, h1, spl] at hst ⊢
    exact hst
  unfold execOp
  simp [ho, hx, hy, Instr.storeAt, Instr.sureAddr, hrun]
theorem wc_store_cell (hT : (P.info? T).map (·.size) = some 1) {b i : Nat} {c : Array Value} {v : Value} (h1 : v.cells = #[v]) (h2 : v.oneCell' = true) (hb : w.heap[b]? = some (.cells c e)) (hi : i < c.size) (hx : a.eval x = .pointer (some ⟨b, i, none⟩)) (hy : a.eval y = v)
    (h : ∀ w', w'.heap[b]? = some (.cells (c.setIfInBounds i v) e) → Tch [b] w w' → wpList P ops Q rest (a.put dst undef) w') : wpList P ops Q (⟨dst, .store T x y, ty, pos, af, none⟩ :: rest) a w :=
  wc_done rfl (exec_store_cell hT h1 h2 rfl hb hi hx hy) (h _ (setRow_heap _ _ _ _ _ _ hb) ((Tch.refl _ _).setRow (.inl (by simp)) _))
end
/-- The page, as far as it is laid. -/
def pageTo (s : Sec) (j : Nat) : Page := ⟨((s.l.drop 32).take j ++ List.replicate (480 - j) 0).take 480, by
  have := s.h
  rw [List.length_take, List.length_append, List.length_take, List.length_drop, List.length_replicate]
  omega⟩
theorem pageTo_zero (s : Sec) : pageTo s 0 = Arr.zero := by
  apply Arr.ext'
  show ((s.l.drop 32).take 0 ++ List.replicate (480 - 0) 0).take 480 = List.replicate 480 0
  rw [List.take_zero, List.nil_append, Nat.sub_zero]
  exact List.take_of_length_le (Nat.le_of_eq List.length_replicate)
theorem pageTo_full (s : Sec) : pageTo s 480 = (parse s).page := by
  apply Arr.ext'
  show ((s.l.drop 32).take 480 ++ List.replicate (480 - 480) 0).take 480 = s.l.drop 32
  have h : (s.l.drop 32).length = 480 := by rw [List.length_drop, s.h]
  rw [Nat.sub_self, List.replicate_zero, List.append_nil, List.take_of_length_le (Nat.le_of_eq h)]
  exact List.take_of_length_le (Nat.le_of_eq h)
theorem frame_setpage (f : FrameV) (p : Page) (j : Nat) (u : UInt8) : (frameA { f with page := p }).setIfInBounds (4 + j) (bv u) = frameA { f with page := ⟨p.l.set j u, by rw [List.length_set]; exact p.h⟩ } := by
  unfold frameA
  rw [Array.setIfInBounds_append_right (by simp)]
  congr 1
  have e1 : 4 + j - (#[bv f.kind, Value.int .u64 f.gen, .int .u64 f.num, .int .u32 f.idx] : Array Value).size = j := by simp
  show (bytesA p.l).setIfInBounds _ (bv u) = bytesA (p.l.set j u)
  rw [e1, bytesA_set]
theorem pageTo_step (s : Sec) {j : Nat} (h : j < 480) : (⟨(pageTo s j).l.set j (s.l.getD (32 + j) 0), by rw [List.length_set]; exact (pageTo s j).h⟩ : Page) = pageTo s (j + 1) := by
  apply Arr.ext'
  show (((s.l.drop 32).take j ++ List.replicate (480 - j) 0).take 480).set j (s.l.getD (32 + j) 0) = ((s.l.drop 32).take (j + 1) ++ List.replicate (480 - (j + 1)) 0).take 480
  have hd : (s.l.drop 32).length = 480 := by rw [List.length_drop, s.h]
  have hx : (s.l.drop 32)[j]? = some (s.l.getD (32 + j) 0) := by
    rw [List.getElem?_drop, List.getD_eq_getElem?_getD, List.getElem?_eq_getElem (by rw [s.h]; omega)]; rfl
  have e1 : ((s.l.drop 32).take j ++ List.replicate (480 - j) (0 : UInt8)).take 480 = (s.l.drop 32).take j ++ List.replicate (480 - j) 0 :=
    List.take_of_length_le (by rw [List.length_append, List.length_take, List.length_replicate]; omega)
  have e2 : ((s.l.drop 32).take (j + 1) ++ List.replicate (480 - (j + 1)) (0 : UInt8)).take 480 = (s.l.drop 32).take (j + 1) ++ List.replicate (480 - (j + 1)) 0 :=
    List.take_of_length_le (by rw [List.length_append, List.length_take, List.length_replicate]; omega)
  rw [e1, e2, List.set_append_right _ _ (by rw [List.length_take]; omega), List.length_take, Nat.min_eq_left (by omega), Nat.sub_self, List.take_add_one, hx, show 480 - j = (480 - (j + 1)) + 1 by omega, List.replicate_succ, List.set_cons_zero, List.append_assoc]
  rfl
theorem fillF_num (f : FrameV) (n : Nat) (l : List (Nat × Value)) : fillF f ((2, .int .u64 n) :: l) = fillF { f with num := n } l := by
  unfold fillF
  rw [fill_cons (off := 2) (size := 1) rfl rfl (by rw [size_frameA]; omega)]
  have h : spl (frameA f) 2 (Value.int .u64 n).cells = frameA { f with num := n } := (spl_one _ _ _ (by rw [size_frameA]; omega)).trans (frame_set2 f n)
  rw [h]
end Go.Cib
namespace Go.Proofs.YthbaipljlbddcaaGreat
open Go.RowKit Go.Cib
theorem rframeT : AggT Tryz.prog 75 484 := by
  refine ⟨?_, ?_⟩
  · have h : (Tryz.prog.underlying 75).map (fun d => match d with | .struct _ | .array _ _ => true | _ => false) = some true := by kernel_rfl
    obtain ⟨d, h1, h2⟩ := Option.map_eq_some_iff.1 h
    exact ⟨d, h1, h2⟩
  · have h : (Tryz.prog.info? 75).map (·.size) = some 484 := by kernel_rfl
    obtain ⟨d, h1, h2⟩ := Option.map_eq_some_iff.1 h
    exact ⟨d, h1, h2⟩
theorem rframeTT : FrameT Tryz.prog 75 := by
  refine ⟨rframeT, ?_⟩
  have h : (Tryz.prog.info? 75).map (·.zero) = some (some (.agg (frameA FrameV.zero))) := by kernel_rfl
  obtain ⟨d, h1, h2⟩ := Option.map_eq_some_iff.1 h
  exact ⟨d, h1, h2⟩
theorem rframeFields : Tryz.prog.underlying 75 = some (.struct (fieldsOf (Tryz.prog.underlying 75))) := fieldsOf_spec (by kernel_rfl)
theorem rframePl (w : World) : (Array.mapM (fun (f : Field) => Prod.mk f.offset <$> sizeOf f.type) (fieldsOf (Tryz.prog.underlying 75)) : Sem (Array (Nat × Nat))).run Tryz.prog w = .ok framePlaces w := by kernel_rfl
theorem exec_build_rf {a : Act} {w : World} {dst : Option Tmp} {ty : TypeId} {pos : String} {af : Array Edge} {gd : Option (Nat × Bool)} {ps : Array (Nat × Operand)} {l : List (Nat × Value)} {f : FrameV}
    (hf : fillF FrameV.zero l = some (frameA f)) (hl : ps.toList.map (fun q => (q.1, a.eval q.2)) = l) : (execOp a.eval ⟨dst, .build 75 ps, ty, pos, af, gd⟩).run Tryz.prog w = .ok (.value (.agg (frameA f))) w :=
  exec_build_fill rframeTT.info rframeFields rframePl hl hf
set_option maxRecDepth 20000 in
theorem cf_rsector (args : Array Value) (w : World) : (callFunc 22 args).run Tryz.prog w = .ok (.enter 22 args) w := rfl
/-- What the first region of Read knows. -/
def RdVal (B : Nat) (s : Sec) (f0 : FrameV) : Nat → Value
  | 0 => .pointer (some ⟨B, 4, none⟩)
  | 1 => .int .u8 (parse s).kind.toNat
  | 2 => .int .u64 (parse s).gen
  | 3 => .int .u64 (parse s).num
  | 4 => .int .u64 (parse s).idx
  | 5 => .int .u32 (parse s).idx
  | _ => .agg (frameA f0)
set_option maxRecDepth 20000 in
set_option maxHeartbeats 4000000 in
theorem rread_any (s : Sec) (w : World) : Calls Tryz.prog 57 #[.agg (secA s)] w fun e w' => e = .returned (.tuple #[.agg (frameA (parse s)), .bool (decide ((parse s).sector = s))]) ∧ Tch [] w w' := by
  go_enter Tryz.func57, Tryz.ntmps57
  go_upto_region 1 with (first | ((with_reducible refine wc_box_agg ?_ ?_); exact rfl; go_frame) | ((with_reducible refine wc_alloc_frame rframeTT ?_); go_frame; (try simp only [World.size_alloc])))
  have ta : Tch [] w (w.alloc (.cells (secA s) 26)) := (Tch.refl _ _).alloc _
  have ha : (w.alloc (.cells (secA s) 26)).heap[w.heap.size]? = some (.cells (secA s) 26) := heap_alloc_new _ _
  have za : (w.alloc (.cells (secA s) 26)).heap.size = w.heap.size + 1 := World.size_alloc _ _
  generalize w.alloc (.cells (secA s) 26) = wa at *
  have tb : Tch [] wa (wa.alloc (.cells (frameA FrameV.zero) 75)) := (Tch.refl _ _).alloc _
  have hb : (wa.alloc (.cells (frameA FrameV.zero) 75)).heap[wa.heap.size]? = some (.cells (frameA FrameV.zero) 75) := heap_alloc_new _ _
  have zb : (wa.alloc (.cells (frameA FrameV.zero) 75)).heap.size = wa.heap.size + 1 := World.size_alloc _ _
  generalize wa.alloc (.cells (frameA FrameV.zero) 75) = w1 at *
  have SB := Lib.hid (tb.heap ha (by simp))
  rw [za] at hb zb
  have RB := Lib.hid hb
  have T1 := Lib.hid (ta.trans tb)
  have Z1 := Lib.hid zb
  clear ta tb ha hb za zb wa
  obtain ⟨B, hB⟩ : ∃ B, w.heap.size = B := ⟨_, rfl⟩
  rw [hB] at SB RB Z1 ⊢
  have HW : Hid (w.heap.size = B) := hB
  clear hB
  obtain ⟨f0, hf0⟩ : ∃ f0 : FrameV, ({ parse s with page := pageTo s 0 } : FrameV) = f0 := ⟨_, rfl⟩
  have FILL : Hid (fillF FrameV.zero [(0, .int .u8 (parse s).kind.toNat), (1, .int .u64 (parse s).gen), (2, .int .u64 (parse s).num), (3, .int .u32 (parse s).idx)] = some (frameA f0)) := by
    show _ = _
    rw [fillF_kind, fillF_gen, fillF_num, fillF_idx, fillF_nil, ← hf0, pageTo_zero]
    rfl
  have okp := parse_ok s
  have HF0 := Lib.hid hf0
  clear hf0
  refine wp_region_state 9 (MadeOne w1 (RdVal B s f0) 7 8 (.cells (frameA FrameV.zero) 75) (.cells (frameA f0) 75)) (by kernel_rfl) (by kernel_rfl) (fun vs => ⟨(Tch.refl _ _).drew, fun j _ _ hl => (by rw [getD_replicate_false] at hl; cases hl), fun hl => (by rw [getD_replicate_false] at hl; cases hl), fun hl => (by rw [getD_replicate_false] at hl; cases hl)⟩) ?_ ?_
  · intro i o hi ho listed vs fu w' hI hsz hnl hold hdep
    have hSB : w'.heap[B]? = some (.cells (bytesA s.l) 26) := hI.tch.heap SB.out (by simp)
    have hi7 : i = 0 ∨ i = 1 ∨ i = 2 ∨ i = 3 ∨ i = 4 ∨ i = 5 ∨ i = 6 ∨ i = 7 ∨ i = 8 := by omega
    rcases hi7 with rfl | rfl | rfl | rfl | rfl | rfl | rfl | rfl | rfl
    all_goals (simp only [List.getElem?_cons_zero, List.getElem?_cons_succ, Option.some.injEq] at ho; subst ho)
    · refine step_plain rfl ?_
      have x1 : fu.tmps[1]?.getD undef = .pointer (some ⟨B, 0, none⟩) := ev_tmp (hold 1 (by show _ < 29; omega) (by kernel_rfl))
      go_simp
      exact hI.plain (Tch.refl _ _) (by decide) (by decide)
    · refine step_plain rfl ?_
      obtain ⟨l6, e6⟩ := hdep 0 6 (by show _ < 29; omega) (by kernel_rfl) (by kernel_rfl)
      have x6 : fu.tmps[6]?.getD undef = .pointer (some ⟨B, 4, none⟩) := ev_tmp (e6.trans (hI.vals 0 (by decide) (by decide) l6))
      have cB : w'.cell? ⟨B, 4, none⟩ = some (.int .u8 (parse s).kind.toNat) := by
        rw [cell_of_row w' B 4 _ _ _ hSB, bytesA_get, List.getElem?_eq_getElem (by rw [s.h]; omega)]
        show some (bv _) = some (.int .u8 (s.l.getD 4 0).toNat)
        rw [List.getD_eq_getElem?_getD, List.getElem?_eq_getElem (by rw [s.h]; omega)]
        rfl
      go_simp
      exact hI.plain (Tch.refl _ _) (by decide) (by decide)
    · refine step_plain rfl ?_
      have x1 : fu.tmps[1]?.getD undef = .pointer (some ⟨B, 0, none⟩) := ev_tmp (hold 1 (by show _ < 29; omega) (by kernel_rfl))
      go_simp
      refine (rget_any hSB s.h 8 8 (by omega) (by omega)).mono ?_
      rintro e w5 ⟨rfl, rfl⟩
      exact ⟨_, rfl, hI.plain (Tch.refl _ _) (by decide) (by decide)⟩
    · refine step_plain rfl ?_
      have x1 : fu.tmps[1]?.getD undef = .pointer (some ⟨B, 0, none⟩) := ev_tmp (hold 1 (by show _ < 29; omega) (by kernel_rfl))
      go_simp
      refine (rget_any hSB s.h 16 8 (by omega) (by omega)).mono ?_
      rintro e w5 ⟨rfl, rfl⟩
      exact ⟨_, rfl, hI.plain (Tch.refl _ _) (by decide) (by decide)⟩
    · refine step_plain rfl ?_
      have x1 : fu.tmps[1]?.getD undef = .pointer (some ⟨B, 0, none⟩) := ev_tmp (hold 1 (by show _ < 29; omega) (by kernel_rfl))
      go_simp
      refine (rget_any hSB s.h 24 4 (by omega) (by omega)).mono ?_
      rintro e w5 ⟨rfl, rfl⟩
      exact ⟨_, rfl, hI.plain (Tch.refl _ _) (by decide) (by decide)⟩
    · refine step_plain rfl ?_
      obtain ⟨l10, e10⟩ := hdep 4 10 (by show _ < 29; omega) (by kernel_rfl) (by kernel_rfl)
      have x10 : fu.tmps[10]?.getD undef = .int .u64 (parse s).idx := ev_tmp (e10.trans (hI.vals 4 (by decide) (by decide) l10))
      have hix := okp.idx
      have hw : IntKind.u32.wrap ((parse s).idx : Int) = ((parse s).idx : Int) := by simp [IntKind.wrap, IntKind.bits, IntKind.signed]; omega
      go_simp
      exact hI.plain (Tch.refl _ _) (by decide) (by decide)
    · refine step_plain rfl ?_
      obtain ⟨l7, e7⟩ := hdep 1 7 (by show _ < 29; omega) (by kernel_rfl) (by kernel_rfl)
      obtain ⟨l8, e8⟩ := hdep 2 8 (by show _ < 29; omega) (by kernel_rfl) (by kernel_rfl)
      obtain ⟨l9, e9⟩ := hdep 3 9 (by show _ < 29; omega) (by kernel_rfl) (by kernel_rfl)
      obtain ⟨l11, e11⟩ := hdep 5 11 (by show _ < 29; omega) (by kernel_rfl) (by kernel_rfl)
      have x7 : fu.eval (.tmp 7) = .int .u8 (parse s).kind.toNat := e7.trans (hI.vals 1 (by decide) (by decide) l7)
      have x8 : fu.eval (.tmp 8) = .int .u64 (parse s).gen := e8.trans (hI.vals 2 (by decide) (by decide) l8)
      have x9 : fu.eval (.tmp 9) = .int .u64 (parse s).num := e9.trans (hI.vals 3 (by decide) (by decide) l9)
      have x11 : fu.eval (.tmp 11) = .int .u32 (parse s).idx := e11.trans (hI.vals 5 (by decide) (by decide) l11)
      refine stpR_ok (exec_build_rf FILL.out ?_) (hI.plain (Tch.refl _ _) (by decide) (by decide))
      simp only [List.map_cons, List.map_nil, x7, x8, x9, x11]
    · refine step_plain rfl ?_
      exact stpR_ok (exec_alloc_frame rframeTT) (hI.alloc (by decide) hnl hsz)
    · refine step_plain rfl ?_
      obtain ⟨l4, e4⟩ := hdep 7 4 (by show _ < 29; omega) (by kernel_rfl) (by kernel_rfl)
      obtain ⟨l12, e12⟩ := hdep 6 12 (by show _ < 29; omega) (by kernel_rfl) (by kernel_rfl)
      have x12 : fu.eval (.tmp 12) = .agg (frameA f0) := e12.trans (hI.vals 6 (by decide) (by decide) l12)
      obtain ⟨F, hB1, hB2, hB3⟩ := hI.made l4
      rw [if_neg (by rw [hnl]; simp)] at hB3
      have hb3 : w'.heap[F]? = some (.cells (frameA FrameV.zero) 75) := hB3
      refine stpR_skip (exec_store_frame (g := f0) rframeTT rfl hb3 (e4.trans hB1) x12) ?_
      exact hI.store (by decide) hsz l4 hB1 hB2 ((Tch.refl _ _).setRow (.inl (by simp)) _) (setRow_heap _ _ _ _ _ _ hb3) _
  · intro vs w3 hI
    obtain ⟨F, hF1, hF2, hF3⟩ := hI.made (by kernel_rfl)
    rw [if_pos (by kernel_rfl)] at hF3
    have t3 := hI.tch
    clear hI FILL
    rw [← HF0.out] at hF3
    have X7 := Lib.hid hF1
    have FB := Lib.hid hF3
    have S3 := Lib.hid (t3.heap SB.out (by simp))
    have R3 := Lib.hid (t3.heap RB.out (by simp))
    have HBF : Hid (B + 1 < F) := by have := Z1.out; show _ < _; omega
    have T3 := Lib.hid (T1.out.trans (t3.mono (by simp)))
    have HWF : Hid (w.heap.size ≤ F) := by have := HW.out; have := HBF.out; show _ ≤ _; omega
    clear hF1 hF2 hF3 t3 SB RB T1 Z1 HF0
    unfold fullOf
    rw [show (List.range 9).map vs = [vs 0, vs 1, vs 2, vs 3, vs 4, vs 5, vs 6, vs 7, vs 8] from rfl, X7.out]
    generalize vs 0 = v0
    generalize vs 1 = v1
    generalize vs 2 = v2
    generalize vs 3 = v3
    generalize vs 4 = v4
    generalize vs 5 = v5
    generalize vs 6 = v6
    generalize vs 8 = v8
    clear X7 vs
    simp only [List.take_succ_cons, List.take_zero, List.drop_succ_cons, List.drop_zero, putAll]
    go_frame
    go_wp2_with fail
    go_loopg [5] 480 (fun q i wr => ∃ j, OnAt 480 i q j ∧ wr.heap[F]? = some (.cells (frameA { parse s with page := pageTo s j }) 75) ∧ Tch [F] w3 wr)
    case atStart => exact ⟨0, ⟨Nat.zero_le _, rfl, rfl⟩, FB.out, Tch.refl _ _⟩
    case round =>
      obtain ⟨j, ⟨hj, rfl, rfl⟩, hs, ht⟩ := hrel
      have FR := Lib.hid hs
      have SR := Lib.hid (ht.heap S3.out (by have := HBF.out; simp; omega))
      have RR := Lib.hid (ht.heap R3.out (by have := HBF.out; simp; omega))
      have TR := Lib.hid ht
      clear hs ht FB
      by_cases hj4 : j < 480
      · have kj : wr.cell? ⟨B, 32 + j, none⟩ = some (bv (s.l.getD (32 + j) 0)) := by
          rw [cell_of_row wr B (32 + j) _ _ _ SR.out]
          show (bytesA s.l)[32 + j]? = _
          rw [bytesA_get, List.getD_eq_getElem?_getD, List.getElem?_eq_getElem (by rw [s.h]; omega)]
          rfl
        have hst := frame_setpage (parse s) (pageTo s j) j (s.l.getD (32 + j) 0)
        have hst2 := pageTo_step s hj4
        rw [hst2] at hst
        have HST := Lib.hid hst
        clear hst hst2
        obtain ⟨u, hu⟩ : ∃ u, s.l.getD (32 + j) 0 = u := ⟨_, rfl⟩
        rw [hu] at kj HST
        clear hu
        go_wp2_with ((with_reducible refine wc_store_cell (by kernel_rfl) (v := bv u) (i := 4 + j) rfl rfl FR.out ?_ ?_ ?_ (fun w9 h' t' => ?_)); (rw [size_frameA]; omega); exact rfl; exact rfl; have F9 := Lib.hid h'; have T9 := Lib.hid (TR.out.trans t'); clear h' t'; go_frame)
        go_roundg (480 - (j + 1))
        case measure => omega
        case rel =>
          have h9 := F9.out
          rw [HST.out] at h9
          exact ⟨j + 1, ⟨by omega, by go_num, rfl⟩, h9, T9.out⟩
      · have hj5 : j = 480 := by omega
        subst hj5
        have hf := FR.out
        rw [pageTo_full] at hf
        have FF := Lib.hid (show wr.heap[F]? = some (.cells (frameA (parse s)) 75) from hf)
        clear hf FR
        go_upto_region 6 with fail
        obtain ⟨f, hpf⟩ : ∃ f, parse s = f := ⟨_, rfl⟩
        rw [hpf] at okp FF
        have HPF := Lib.hid hpf
        have OKF := Lib.hid okp
        clear okp hpf
        obtain ⟨Iv, hIv⟩ : ∃ Iv : Bool → World → Prop, Iv = fun b w' => Tch [B + 1] wr w' ∧ w'.heap[B + 1]? = some (.cells (frameA (if b then f else FrameV.zero)) 75) := ⟨_, rfl⟩
        have IV : Hid (∀ b w', Iv b w' ↔ Tch [B + 1] wr w' ∧ w'.heap[B + 1]? = some (.cells (frameA (if b then f else FrameV.zero)) 75)) := fun b w' => by rw [hIv]
        clear hIv
        refine wp_region_walk_end 5 Iv (by kernel_rfl) (by kernel_rfl) rfl (N := 29) rfl (by kernel_rfl) ((IV.out _ _).2 ⟨(Tch.refl _ _).drew, RR.out⟩) ?_; apply Exists.intro; refine ⟨?_, ?_, ?_⟩
        · intro b
          have KF : Hid (∀ w', Iv b w' → w'.heap[F]? = some (.cells (frameA f) 75)) := fun w' h => ((IV.out _ _).1 h).1.heap FF.out (by have := HBF.out; simp; omega)
          have KS : Hid (∀ w', Iv b w' → w'.heap[B]? = some (.cells (secA s) 26)) := fun w' h => ((IV.out _ _).1 h).1.heap SR.out (by simp)
          have CS : Hid (∀ w', Iv b w' → Calls Tryz.prog 22 #[.agg (frameA f)] w' (fun e w'' => e = .returned (.agg (secA f.sector)) ∧ Iv b w'')) := fun w' h => by
            refine (rsector_any f OKF.out w').mono ?_
            rintro e w5 ⟨rfl, t5⟩
            obtain ⟨h1, h2⟩ := (IV.out _ _).1 h
            exact ⟨rfl, (IV.out _ _).2 ⟨h1.trans (t5.mono (by simp)), t5.heap h2 (by simp)⟩⟩
          simp only [List.take_succ_cons, List.take_zero]
          (repeat (first | ((with_reducible refine wq_load_frame rframeTT KF.out ?_ ?_ ?_); exact rfl; exact rfl; go_frame) | ((with_reducible refine wq_load_var secT KS.out ?_ ?_ ?_); exact rfl; exact rfl; go_frame) | ((with_reducible refine wq_fn cf_rsector ?_ ?_ CS.out ?_); exact rfl; exact rfl; go_frame) | ((with_reducible refine wq_eql_arr secT (s := s) (t := f.sector) ?_ ?_ ?_ ?_); exact rfl; exact rfl; exact rfl; go_frame)))
          refine wpQuiet_nil ?_
          exact rfl
        · intro o W ho hW
          simp only [List.getElem?_cons_zero, List.getElem?_cons_succ, Option.some.injEq] at ho
          subst ho
          obtain ⟨h1, h2⟩ := (IV.out _ _).1 hW
          rw [if_neg (by simp)] at h2
          refine ⟨rfl, ?_⟩
          exact stpR_skip (exec_store_frame (g := f) rframeTT rfl h2 rfl rfl) ⟨rfl, (IV.out _ _).2 ⟨h1.setRow (.inl (by simp)) _, by rw [if_pos rfl]; exact setRow_heap _ _ _ _ _ _ h2⟩⟩
        · intro wZ hZ
          obtain ⟨h1, h2⟩ := (IV.out _ _).1 hZ
          rw [if_pos rfl] at h2
          have T9 := Lib.hid (tch_own T3.out ((TR.out.mono (S' := [F, B + 1]) (by simp)).trans (h1.mono (by simp))) (by
            have := HWF.out
            have := HW.out
            simp
            omega))
          have R9 := Lib.hid h2
          clear h1 h2 hZ
          simp only [List.drop_succ_cons, List.drop_zero]
          go_wp2_with fail
          refine bodyPost_ret (res_cell_tmp rframeT rfl _ rfl R9.out (size_frameA _)) rfl ?_
          rw [HPF.out]
          refine ⟨?_, T9.out⟩
          rw [show decide (f.sector = s) = decide (s = f.sector) from decide_eq_decide.2 eq_comm]
          rfl
end Go.Proofs.YthbaipljlbddcaaGreat
/-
  The document's log: numbers of a page; a frame is written: ciboriumref08.Number, Numbers, writes.
-/
namespace Go.Cib
open Go Go.RowKit
theorem i64_or_nat (a b : Nat) (ha : a < 4611686018427387904) (hb : b < 4611686018427387904) : bits .or .i64 (a : Int) (b : Int) = ((a ||| b : Nat) : Int) := by
  have hx : a ||| b < 2 ^ 62 := Nat.or_lt_two_pow (by omega) (by omega)
  show IntKind.i64.wrap ((BitVec.ofInt 64 (a : Int) ||| BitVec.ofInt 64 (b : Int)).toNat : Int) = _
  rw [BitVec.toNat_or, ofInt_u64 a (by omega), ofInt_u64 b (by omega), IntKind.wrap_i64]
  omega
/-- A number of any kind as one of 32 bits. -/
def num32 (x : Int) : Nat := (x % 4294967296).toNat
theorem num32_lt (x : Int) : num32 x < 4294967296 := by unfold num32; omega
theorem num32_nat (n : Nat) (h : n < 4294967296) : num32 (n : Int) = n := by unfold num32; omega
def num32s (l : List Int) : List Nat := l.map num32
theorem be4_get (n k : Nat) (hk : k < 4) : (be 4 n)[k]? = some (UInt8.ofNat (n / 256 ^ (3 - k))) := by
  have h : k = 0 ∨ k = 1 ∨ k = 2 ∨ k = 3 := by omega
  rcases h with rfl | rfl | rfl | rfl
  all_goals (simp [be, Nat.div_div_eq_div_mul])
theorem nums_get (l : List Nat) (j k n : Nat) (hk : k < 4) (h : l[j]? = some n) : (l.flatMap fun n => be 4 n)[4 * j + k]? = some (UInt8.ofNat (n / 256 ^ (3 - k))) := by
  have hj := (List.getElem?_eq_some_iff.1 h).1
  have e : ((l.flatMap fun n => be 4 n).drop (4 * j))[k]? = (l.flatMap fun n => be 4 n)[4 * j + k]? := List.getElem?_drop
  rw [← e, drop_nums l j (by omega)]
  obtain ⟨t, ht⟩ : ∃ t, l.drop j = n :: t := ⟨l.drop (j + 1), by rw [← (List.getElem?_eq_some_iff.1 h).2]; exact List.drop_eq_getElem_cons hj⟩
  rw [ht, List.flatMap_cons, List.getElem?_append_left (by rw [length_be]; exact hk)]
  exact be4_get n k hk
end Go.Cib
namespace Go.Proofs.YthbaipljlbddcaaGreat
open Go.RowKit Go.Cib
set_option maxRecDepth 20000 in
set_option maxHeartbeats 1000000 in
theorem rnumber_any (p : Page) (i : Nat) (hi : i < 120) (w : World) : Calls Tryz.prog 59 #[.agg (secA p), .int .i64 i] w fun e w' => e = .returned (.int .i64 (numAt p i)) ∧ Tch [] w w' := by
  have ht : Tch [] w (w.alloc (.cells (secA p) 64)) := (Tch.refl _ _).alloc _
  have hb : (w.alloc (.cells (secA p) 64)).heap[w.heap.size]? = some (.cells (bytesA p.l) 64) := heap_alloc_new _ _
  have HT := Lib.hid ht
  have HB := Lib.hid hb
  clear ht hb
  go_enter Tryz.func59, Tryz.ntmps59
  go_upto_region 1 with ((with_reducible refine wc_box_agg ?_ ?_); exact rfl; go_frame)
  generalize w.alloc (.cells (secA p) 64) = w1 at *
  obtain ⟨B, hB⟩ : ∃ B, w.heap.size = B := ⟨_, rfl⟩
  rw [hB] at HB ⊢
  clear hB
  go_wp2_with fail
  obtain ⟨m, hm⟩ : ∃ m, (p.l.drop (4 * i)).take 4 = m := ⟨_, rfl⟩
  have hml : m.length = 4 := by rw [← hm, List.length_take, List.length_drop, p.h]; omega
  have HMM := Lib.hid hm
  clear hm
  go_loopg [5, 6] 4 (fun q v i wr => ∃ j n, OnAt 4 i q j ∧ v = .int .i64 (n : Nat) ∧ n = beVal (m.take j) ∧ w1 = wr)
  case atStart => exact ⟨0, 0, ⟨Nat.zero_le _, rfl, rfl⟩, rfl, rfl, rfl⟩
  case round =>
    obtain ⟨j, n, ⟨hj, rfl, rfl⟩, rfl, hn, rfl⟩ := hrel
    have hnb : n < 256 ^ j := by
      rw [hn]
      have := beVal_lt (m.take j)
      have hl : (m.take j).length = j := by rw [List.length_take]; omega
      rwa [hl] at this
    have HP := Lib.hid hn
    clear hn
    by_cases hjn : j < 4
    · obtain ⟨x, hx⟩ : ∃ x, m[j]? = some x := ⟨_, List.getElem?_eq_getElem (by omega)⟩
      have hx2 : p.l[4 * i + j]? = some x := by
        have h1 := hx
        rw [← HMM.out, List.getElem?_take, if_pos hjn, List.getElem?_drop] at h1
        exact h1
      have hc : w1.cell? ⟨B, 4 * i + j, none⟩ = some (.int .u8 x.toNat) := by
        rw [cell_of_row w1 B _ _ _ _ HB.out, bytesA_get, hx2]; rfl
      have hp24 : n < 16777216 := Nat.lt_of_lt_of_le hnb (Nat.pow_le_pow_right (by omega) (show j ≤ 3 by omega))
      have hxb := x.toNat_lt
      have HX := Lib.hid hx
      clear hx hnb hx2
      have hor : bits BinOp.or IntKind.i64 ((n : Int) * 256) ((x.toNat : Nat) : Int) = ((n * 256 + x.toNat : Nat) : Int) := by
        have h1 := i64_or_nat (n * 256) x.toNat (by omega) (by omega)
        rw [nat_join 8 (n * 256) x.toNat (by omega) (by omega)] at h1
        exact h1
      have HOR := Lib.hid hor
      clear hor
      go_wp2_with fail
      go_roundg (4 - (j + 1))
      case measure => omega
      case rel =>
        refine ⟨j + 1, n * 256 + x.toNat, ⟨by omega, by go_num, rfl⟩, by rw [HOR.out], ?_, rfl⟩
        have hx : m[j]? = some x := HX.out
        rw [List.take_add_one, hx, Option.toList_some, beVal_snoc, ← HP.out]
    · have hq : m.take j = m := List.take_of_length_le (by omega)
      have hp2 : n = beVal m := by rw [HP.out, hq]
      have HP2 := Lib.hid hp2
      clear hnb HP hq hp2
      go_wp2_with fail
      go_ret
      refine ⟨?_, HT.out⟩
      rw [HP2.out, ← HMM.out]
      rfl

set_option maxRecDepth 20000 in
set_option maxHeartbeats 2000000 in
theorem rnumbers_any {w : World} {a : Option Addr} {cap : Nat} {l : List Int} (h : IntsAt w a l) (_hl : l.length ≤ 9223372036854775807) :
    Calls Tryz.prog 21 #[.slice a l.length cap] w fun e w' => e = .returned (.agg (secA (numsPage (num32s l)))) ∧ Tch [] w w' := by
  obtain ⟨w1, hw1⟩ : ∃ w1, (w.alloc (.cells (secA (Arr.zero : Page)) 64)).alloc (.cells (secA (Arr.zero : Page)) 64) = w1 := ⟨_, rfl⟩
  have HW1 := Lib.hid hw1
  have HH := Lib.hid h
  clear hw1 h
  obtain ⟨m, hm⟩ : ∃ m, l.length = m := ⟨_, rfl⟩
  obtain ⟨L, hL⟩ : ∃ L, ((num32s l).flatMap fun n => be 4 n) = L := ⟨_, rfl⟩
  have hLl : L.length = 4 * m := by rw [← hL, length_nums, ← hm]; unfold num32s; rw [List.length_map]
  have hfin : numsPage (num32s l) = Arr.text L := by rw [← hL]; rfl
  rw [hm] at _hl ⊢
  have HM := Lib.hid hm
  have HL := Lib.hid hL
  have HLL := Lib.hid hLl
  have HFIN := Lib.hid hfin
  clear hm hL hLl hfin
  go_enter Tryz.func21, Tryz.ntmps21
  go_upto_region 2 with ((with_reducible refine wc_alloc_arr pageT ?_); go_frame; (try simp only [World.size_alloc]))
  rw [HW1.out]
  have hR : w1.heap[w.heap.size]? = some (.cells (secA (Arr.zero : Page)) 64) := by
    rw [← HW1.out, heap_alloc, if_neg (by simp), heap_alloc, if_pos rfl]
  have hP : w1.heap[w.heap.size + 1]? = some (.cells (secA (Arr.text (L.take 0) : Page)) 64) := by
    rw [← HW1.out, heap_alloc, if_pos (by simp)]
    rfl
  have ht : Tch [] w w1 := by rw [← HW1.out]; exact ((Tch.refl _ _).alloc _).alloc _
  have R1 := Lib.hid hR
  have P1 := Lib.hid hP
  have T1 := Lib.hid ht
  clear hR hP ht HW1
  obtain ⟨B, hB⟩ : ∃ B, w.heap.size = B := ⟨_, rfl⟩
  rw [hB] at R1 P1 ⊢
  have HWB : Hid (w.heap.size ≤ B) := by show _ ≤ _; omega
  clear hB
  go_wp2_with fail
  go_loopg [4, 5] m (fun q i _ wr => ∃ j, OnAt m i q j ∧ wr.heap[B + 1]? = some (.cells (secA (Arr.text (L.take (4 * j)) : Page)) 64) ∧ Tch [B + 1] w1 wr)
  case atStart => exact ⟨0, ⟨Nat.zero_le _, rfl, rfl⟩, P1.out, Tch.refl _ _⟩
  case round =>
    obtain ⟨j, ⟨hj, rfl, rfl⟩, hX, hT⟩ := hrel
    have HX := Lib.hid hX
    have HT := Lib.hid hT
    clear hX hT P1
    by_cases hj1 : j < m
    · by_cases hj2 : j < 120
      · have hjl : j < l.length := by have := HM.out; omega
        obtain ⟨x, hx⟩ : ∃ x, l[j]? = some x := ⟨_, List.getElem?_eq_getElem hjl⟩
        obtain ⟨b, o, rfl, hc⟩ := HH.out j x hx
        have hbl : b < w.heap.size := block_lt_of_cell hc
        have HC := Lib.hid (cell_old (T1.out) hc)
        have HN : Hid ((num32s l)[j]? = some (num32 x)) := by show _ = _; unfold num32s; rw [List.getElem?_map, hx]; rfl
        have HBB : Hid (b ≠ B + 1) := by have := HWB.out; show _ ≠ _; omega
        clear hc hx hjl hbl HH
        go_wp2_with fail
        go_loopg [5] 4 (fun q i wr => ∃ k, OnAt 4 i q k ∧ wr.heap[B + 1]? = some (.cells (secA (Arr.text (L.take (4 * j + k)) : Page)) 64) ∧ Tch [B + 1] w1 wr)
        case atStart => exact ⟨0, ⟨Nat.zero_le _, rfl, rfl⟩, HX.out, HT.out⟩
        case round =>
          obtain ⟨k, ⟨hk, rfl, rfl⟩, hX2, hT2⟩ := hrel
          by_cases hk4 : k < 4
          · have hc : wr.cell? ⟨b, o + j, none⟩ = some (.int .i64 x) := (World.cell?_of_block (hT2.block b (block_lt_of_cell HC.out) (by have := HBB.out; simp; omega))).trans HC.out
            have hf := frozen_of_row wr (B + 1) (4 * j + k) _ _ hX2
            have hcc : wr.cell? ⟨B + 1, 4 * j + k, none⟩ = some (bv ((Arr.text (L.take (4 * j + k)) : Page).l.getD (4 * j + k) 0)) := by
              rw [cell_of_row wr _ _ _ _ _ hX2, secA, bytesA_get, List.getD_eq_getElem?_getD, List.getElem?_eq_getElem (by rw [Arr.h]; omega)]
              rfl
            have hget : L[4 * j + k]? = some (UInt8.ofNat (num32 x / 256 ^ (3 - k))) := by rw [← HL.out]; exact nums_get _ _ _ _ hk4 HN.out
            have hst := ptext_step L (4 * j + k) _ (by omega) hget
            have HST := Lib.hid hst
            have X2 := Lib.hid hX2
            have T2 := Lib.hid hT2
            obtain ⟨n0, hn0⟩ : ∃ n0 : Nat, num32 x = n0 := ⟨_, rfl⟩
            have hn1 : (x % 4294967296) = (n0 : Int) := by rw [← hn0]; unfold num32; omega
            have hn2 : n0 < 4294967296 := by rw [← hn0]; exact num32_lt x
            rw [hn0] at HST
            clear hst hget hX2 hT2 hn0
            have hpw : (2 : Nat) ^ (24 - 8 * k) = 256 ^ (3 - k) := by
              have hk7 : k = 0 ∨ k = 1 ∨ k = 2 ∨ k = 3 := by omega
              rcases hk7 with rfl | rfl | rfl | rfl <;> rfl
            have HPW := Lib.hid hpw
            clear hpw
            go_wp2_with fail
            go_roundg (4 - (k + 1))
            case measure => omega
            case rel =>
              refine ⟨k + 1, ⟨by omega, by go_num, rfl⟩, ?_, T2.out.setCell (.inl (by simp)) _⟩
              have e : Value.int .u8 ((n0 : Int) / 2 ^ (24 - 8 * k) % 256) = bv (UInt8.ofNat (n0 / 256 ^ (3 - k))) := by
                unfold bv; rw [toNat_ofNat8, ← HPW.out]; rfl
              rw [heap_setCell_cells X2.out, e, ← Nat.add_assoc]
              simp only [secA, ← HST.out]
              rw [← bytesA_set]
          · have hk5 : k = 4 := by omega
            subst hk5
            have X2 := Lib.hid hX2
            have T2 := Lib.hid hT2
            clear hX2 hT2
            go_wp2_with fail
            go_roundg (m - (j + 1))
            case measure => omega
            case rel => exact ⟨j + 1, ⟨by omega, by go_num, rfl⟩, X2.out, T2.out⟩
      · have hfull := ptext_full L (4 * j) (.inl (by omega))
        rw [hfull] at HX
        have RR := Lib.hid (HT.out.heap R1.out (by simp))
        clear hfull
        (go_wp2_with (first | ((with_reducible apply wc_load_var pageT HX.out); exact rfl; go_frame) | ((with_reducible apply wc_store_var pageT RR.out); exact rfl; exact rfl; go_frame)); refine bodyPost_ret (res_cell pageT.agg rfl _ rfl (setRow_heap _ _ _ _ _ _ RR.out) (size_secA _)) rfl ?_; refine ⟨by rw [HFIN.out], ?_⟩; exact (tch_own T1.out ((HT.out.mono (S' := [B, B + 1]) (by simp)).setRow (.inl (by simp)) _) (by have := HWB.out; simp; omega)))
    · have hfull := ptext_full L (4 * j) (.inr (by have := HLL.out; omega))
      rw [hfull] at HX
      have RR := Lib.hid (HT.out.heap R1.out (by simp))
      clear hfull
      (go_wp2_with (first | ((with_reducible apply wc_load_var pageT HX.out); exact rfl; go_frame) | ((with_reducible apply wc_store_var pageT RR.out); exact rfl; exact rfl; go_frame)); refine bodyPost_ret (res_cell pageT.agg rfl _ rfl (setRow_heap _ _ _ _ _ _ RR.out) (size_secA _)) rfl ?_; refine ⟨by rw [HFIN.out], ?_⟩; exact (tch_own T1.out ((HT.out.mono (S' := [B, B + 1]) (by simp)).setRow (.inl (by simp)) _) (by have := HWB.out; simp; omega)))

set_option maxRecDepth 20000 in
set_option maxHeartbeats 1000000 in
theorem rwrites_any {w : World} {r L W H : Nat} {D : DiskS} (h : RefAt w r L W H D) (i : Int) (f : FrameV) (hf : f.Ok) :
    Calls Tryz.prog 61 #[.pointer (some ⟨r, 0, none⟩), .int .i64 i, .agg (frameA f)] w fun e w' =>
      e = .returned (.int .i64 (D.write i f.sector).1) ∧ RefAt w' r L W H (D.write i f.sector).2 ∧ Tch [r, L, W, H] w w' := by
  have ht : Tch [] w (w.alloc (.cells (frameA f) 75)) := (Tch.refl _ _).alloc _
  have hb : (w.alloc (.cells (frameA f) 75)).heap[w.heap.size]? = some (.cells (frameA f) 75) := heap_alloc_new _ _
  have HR := Lib.hid (h.touch ht (by simp) (by simp) (by simp) (by simp))
  have HT := Lib.hid ht
  have HB := Lib.hid hb
  clear ht hb h
  go_enter Tryz.func61, Tryz.ntmps61
  go_upto_region 1 with ((with_reducible refine wc_box_agg ?_ ?_); exact rfl; go_frame)
  generalize w.alloc (.cells (frameA f) 75) = w1 at *
  go_wp2_with (first | ((with_reducible refine wc_load_frame rframeTT HB.out ?_ ?_); exact rfl; go_frame) | (go_at_call 22; refine (rsector_any f hf w1).mono ?_; rintro e w2 ⟨rfl, q1⟩; have T2 := Lib.hid (HT.out.trans q1); have R2 := Lib.hid (HR.out.touch q1 (by simp) (by simp) (by simp) (by simp)); clear q1) | (go_at_call 86; refine (refWrite_any R2.out i f.sector).mono ?_; rintro e w3 ⟨rfl, q1, q2⟩; have T3 := Lib.hid ((T2.out.mono (S' := [r, L, W, H]) (by simp)).trans q2); have R3 := Lib.hid q1; clear q1 q2))
  go_ret
  exact ⟨rfl, R3.out, T3.out⟩
end Go.Proofs.YthbaipljlbddcaaGreat
/-
  The document's log: does a head count in its sector: ciboriumref08.counts.
-/
namespace Go.Cib
open Go Go.RowKit
def rcounts (D : DiskS) (i : Nat) (f : FrameV) : Prop :=
  f.kind = 1 ∧ f.num = 0 ∧ f.idx = 0 ∧ 1 ≤ f.gen ∧ f.gen % 2 = i ∧ 3 ≤ numAt f.page 0 ∧ numAt f.page 0 ≤ 4000 ∧ 1 ≤ numAt f.page 1 ∧
    2 + numAt f.page 0 + numAt f.page 1 = D.lasts.length ∧ f.page = numsPage [numAt f.page 0, numAt f.page 1]
instance (D : DiskS) (i : Nat) (f : FrameV) : Decidable (rcounts D i f) := by unfold rcounts; infer_instance
theorem rcounts_iff {S : LogS} (hk : S.disk.lasts.length ≤ 16384) (i : Nat) (f : FrameV) : S.counts i f ↔ rcounts S.disk i f ∧ S.gen < f.gen := by
  unfold LogS.counts rcounts
  constructor
  · rintro ⟨h1, h2, h3, h4, h5, h6, h7, h8, _, h10, h11⟩
    exact ⟨⟨h1, h2, h3, by omega, h5, h6, h7, h8, h10, h11⟩, h4⟩
  · rintro ⟨⟨h1, h2, h3, _, h5, h6, h7, h8, h10, h11⟩, h4⟩
    exact ⟨h1, h2, h3, h4, h5, h6, h7, h8, by omega, h10, h11⟩
theorem num32s_two (m n : Nat) (hm : m < 4294967296) (hn : n < 4294967296) : num32s [(m : Int), (n : Int)] = [m, n] := by
  simp [num32s, num32_nat _ hm, num32_nat _ hn]
end Go.Cib
namespace Go.Proofs.YthbaipljlbddcaaGreat
open Go.RowKit Go.Cib
theorem ints_two (w : World) (m n : Int) : IntsAt (w.alloc (.cells #[.int .i64 m, .int .i64 n] 3)) (some ⟨w.heap.size, 0, none⟩) [m, n] := by
  intro j v hj
  refine ⟨w.heap.size, 0, rfl, ?_⟩
  rw [cell_of_row _ _ _ _ _ _ (heap_alloc_new w _)]
  match j, hj with
  | 0, hj => simp at hj; subst hj; rfl
  | 1, hj => simp at hj; subst hj; rfl
  | j + 2, hj => simp at hj
theorem ints_old {w w' : World} {a : Option Addr} {l : List Int} (h : IntsAt w a l) (ht : Tch [] w w') : IntsAt w' a l := h.touch ht (by simp)
def KCnt (r L F : Nat) (lg pg len : Nat) (p : Page) : Nat → Value → World → Prop
  | 0, v, _ => v = .int .i64 lg
  | 1, v, _ => v = .bool true
  | 2, v, _ => v = .bool true
  | 3, v, _ => v = .int .i64 lg
  | 4, v, _ => v = .bool true
  | 5, v, _ => v = .bool true
  | 6, v, _ => v = .bool true
  | 7, v, _ => v = .int .i64 pg
  | 8, v, _ => v = .bool true
  | 9, v, _ => v = .bool true
  | 10, v, _ => v = .bool true
  | 11, v, _ => v = .int .i64 lg
  | 12, v, _ => v = .int .i64 (2 + lg)
  | 13, v, _ => v = .int .i64 pg
  | 14, v, _ => v = .int .i64 (2 + lg + pg)
  | 15, v, _ => v = .pointer (some ⟨r, 0, none⟩)
  | 16, v, _ => v = .pointer (some ⟨r, 0, none⟩)
  | 17, v, _ => v = .pointer (some ⟨r, 0, none⟩)
  | 18, v, _ => v = .slice (some ⟨L, 0, none⟩) len len
  | 19, v, _ => v = .int .i64 len
  | 20, v, _ => v = .bool true
  | 21, v, _ => v = .bool true
  | 22, v, _ => v = .bool true
  | 23, v, _ => v = .pointer (some ⟨F, 4, none⟩)
  | 24, v, _ => v = .agg (secA p)
  | 25, v, _ => v = .int .i64 lg
  | 26, v, _ => v = .int .i64 pg
  | 27, v, w => ∃ k, v = .slice (some ⟨k, 0, none⟩) 2 2 ∧ IntsAt w (some ⟨k, 0, none⟩) [(lg : Int), (pg : Int)]
  | _, v, _ => v = .agg (secA (numsPage [lg, pg]))
theorem KCnt.later {r L F lg pg len : Nat} {p : Page} {j : Nat} {v : Value} {w w' : World} (h : KCnt r L F lg pg len p j v w) (ht : Tch [] w w') : KCnt r L F lg pg len p j v w' := by
  unfold KCnt at h ⊢
  split at h <;> first | exact h | (obtain ⟨k, e, hk⟩ := h; exact ⟨k, e, ints_old hk ht⟩)
set_option maxRecDepth 20000 in
set_option maxHeartbeats 4000000 in
theorem rcounts_any {w : World} {r L W H : Nat} {D : DiskS} (h : RefAt w r L W H D) (i : Nat) (hi : i < 2) (f : FrameV) (_hf : f.Ok) :
    Calls Tryz.prog 58 #[.pointer (some ⟨r, 0, none⟩), .int .i64 i, .agg (frameA f)] w fun e w' => e = .returned (.bool (decide (rcounts D i f))) ∧ Tch [] w w' := by
  obtain ⟨w1, hw1⟩ : ∃ w1, w.alloc (.cells (frameA f) 75) = w1 := ⟨_, rfl⟩
  have t1 : Tch [] w w1 := by rw [← hw1]; exact (Tch.refl _ _).alloc _
  have b1 : w1.heap[w.heap.size]? = some (.cells (frameA f) 75) := by rw [← hw1]; exact heap_alloc_new _ _
  obtain ⟨lg, hlg⟩ : ∃ lg, numAt f.page 0 = lg := ⟨_, rfl⟩
  obtain ⟨pg, hpg⟩ : ∃ pg, numAt f.page 1 = pg := ⟨_, rfl⟩
  have hlg2 : lg < 4294967296 := hlg ▸ numAt_lt _ _
  have hpg2 : pg < 4294967296 := hpg ▸ numAt_lt _ _
  obtain ⟨len, hlen⟩ : ∃ len, D.lasts.length = len := ⟨_, rfl⟩
  have hlen2 : len ≤ 16384 := by rw [← hlen]; exact h.ok.size
  have hiff : rcounts D i f ↔ (f.kind = 1 ∧ f.num = 0 ∧ f.idx = 0 ∧ 1 ≤ f.gen ∧ f.gen % 2 = i ∧ 3 ≤ lg ∧ lg ≤ 4000 ∧ 1 ≤ pg ∧ 2 + lg + pg = len ∧ f.page = numsPage [lg, pg]) := by
    unfold rcounts; rw [hlg, hpg, hlen]
  have NO : Hid (¬ (f.kind = 1 ∧ f.num = 0 ∧ f.idx = 0 ∧ 1 ≤ f.gen ∧ f.gen % 2 = i ∧ 3 ≤ lg ∧ lg ≤ 4000 ∧ 1 ≤ pg ∧ 2 + lg + pg = len ∧ f.page = numsPage [lg, pg]) → ¬ rcounts D i f) := fun hn hc => hn (hiff.1 hc)
  have YES : Hid ((f.kind = 1 ∧ f.num = 0 ∧ f.idx = 0 ∧ 1 ≤ f.gen ∧ f.gen % 2 = i ∧ 3 ≤ lg ∧ lg ≤ 4000 ∧ 1 ≤ pg ∧ 2 + lg + pg = len ∧ f.page = numsPage [lg, pg]) → rcounts D i f) := fun hn => hiff.2 hn
  have hr := h.hr
  rw [hlen] at hr
  have HR := Lib.hid (t1.heap hr (by simp))
  have HW1 := Lib.hid hw1
  have T1 := Lib.hid t1
  have B1 := Lib.hid b1
  have HLG := Lib.hid hlg
  have HPG := Lib.hid hpg
  clear hw1 t1 b1 h hlg hpg hlen hiff hr
  obtain ⟨F, hF⟩ : ∃ F, w.heap.size = F := ⟨_, rfl⟩
  rw [hF] at B1
  go_enter Tryz.func58, Tryz.ntmps58
  go_upto_region 1 with ((with_reducible refine wc_box_agg ?_ ?_); exact rfl; go_frame)
  rw [HW1.out]
  clear hF
  go_upto_region 3 with (first | (have B1' := B1; clear B1'; (with_reducible refine wc_load_framepage pageT.agg B1.out ?_ ?_); exact rfl; go_frame) | ((with_reducible refine wc_load_framepage pageT.agg B2.out ?_ ?_); exact rfl; go_frame) | (go_at_call 59; have T1' := T1; clear T1'; refine (rnumber_any f.page 0 (by omega) _).mono ?_; rintro e w2 ⟨rfl, q1⟩; rw [HLG.out]; have T2 := Lib.hid (T1.out.trans q1); have B2 := Lib.hid (q1.heap B1.out (by simp)); have HR2 := Lib.hid (q1.heap HR.out (by simp)); clear q1 B1 T1) | (go_at_call 59; refine (rnumber_any f.page 1 (by omega) _).mono ?_; rintro e w4 ⟨rfl, q1⟩; rw [HPG.out]; have T4 := Lib.hid (T2.out.trans q1); have B7 := Lib.hid (q1.heap B2.out (by simp)); have HR4 := Lib.hid (q1.heap HR2.out (by simp)); clear q1 B2 T2))
  obtain ⟨q0, q1, q2, q3⟩ := frame_cell B7.out
  have c0 := cell_of_row w4 r 0 _ _ _ HR4.out
  have egm : (f.gen : Int).tmod 2 = (f.gen % 2 : Nat) := by rw [Int.tmod_eq_emod_of_nonneg (by omega)]; omega
  obtain ⟨gm, hgm⟩ : ∃ gm, f.gen % 2 = gm := ⟨_, rfl⟩
  rw [hgm] at egm
  have HGM := Lib.hid hgm
  have ei : IntKind.u64.wrap (i : Int) = i := by simp [IntKind.wrap, IntKind.bits, IntKind.signed]; omega
  clear HR HR2 hgm
  by_cases p2 : f.kind = 1
  rotate_left
  · have E : Hid (¬ rcounts D i f) := NO.out (fun hh => p2 hh.1)
    have pb : ((f.kind.toNat : Int) != 1) = true := by
      simp only [bne_iff_ne, ne_eq]
      intro e
      exact p2 (UInt8.toNat_inj.1 (by show f.kind.toNat = 1; omega))
    clear p2
    clear NO YES
    go_wp2_with fail
    go_ret
    exact ⟨by rw [decide_eq_false E.out]; rfl, T4.out⟩
  have p2' : ((f.kind.toNat : Int) != 1) = false := by rw [p2]; rfl
  have P2 := Lib.hid p2
  clear p2
  by_cases p3 : f.num = 0
  rotate_left
  · have E : Hid (¬ rcounts D i f) := NO.out (fun hh => p3 hh.2.1)
    have pb : ((f.num : Int) != 0) = true := by simp; omega
    clear p3
    clear NO YES
    go_wp2_with fail
    go_ret
    exact ⟨by rw [decide_eq_false E.out]; rfl, T4.out⟩
  have p3' : ((f.num : Int) != 0) = false := by simp; omega
  have P3 := Lib.hid p3
  clear p3
  by_cases p4 : f.idx = 0
  rotate_left
  · have E : Hid (¬ rcounts D i f) := NO.out (fun hh => p4 hh.2.2.1)
    have pb : ((f.idx : Int) != 0) = true := by simp; omega
    clear p4
    clear NO YES
    go_wp2_with fail
    go_ret
    exact ⟨by rw [decide_eq_false E.out]; rfl, T4.out⟩
  have p4' : ((f.idx : Int) != 0) = false := by simp; omega
  have P4 := Lib.hid p4
  clear p4
  by_cases p5 : 1 ≤ f.gen
  rotate_left
  · have E : Hid (¬ rcounts D i f) := NO.out (fun hh => p5 hh.2.2.2.1)
    have pb : (f.gen : Int) < 1 := by omega
    clear NO YES
    go_wp2_with fail
    go_ret
    exact ⟨by rw [decide_eq_false E.out]; rfl, T4.out⟩
  have p5' : ¬ (f.gen : Int) < 1 := by omega
  by_cases p6 : gm = i
  rotate_left
  · have E : Hid (¬ rcounts D i f) := NO.out (fun hh => p6 (by rw [← HGM.out]; exact hh.2.2.2.2.1))
    have pb : ((gm : Int) != i) = true := by simp; omega
    clear p6
    clear NO YES
    go_wp2_with fail
    go_ret
    exact ⟨by rw [decide_eq_false E.out]; rfl, T4.out⟩
  have p6' : ((gm : Int) != i) = false := by simp; omega
  have P6 := Lib.hid p6
  clear p6
  go_upto_region 5 with fail
  clear q0 q1 q2 q3 p2' p3' p4' p6' egm ei
  by_cases q1 : 3 ≤ lg
  rotate_left
  · have E : Hid (¬ rcounts D i f) := NO.out (fun hh => q1 hh.2.2.2.2.2.1)
    have pb : ¬ (3 : Int) ≤ lg := by omega
    clear NO YES
    (refine wp_region_walk (C := fun w' => ∃ n, w' = World.drewN w4 n) 32 (by kernel_rfl) (by kernel_rfl) ⟨1, rfl⟩ ?_; simp only [List.take_succ_cons, List.take_zero, List.drop_succ_cons, List.drop_zero]; (repeat (first | fail | go_big_quiet_step (fail))); refine wpQuiet_nil ?_; intro _ hw'; obtain ⟨nq, hw''⟩ := hw'; subst hw'')
    go_wp2_with fail
    go_ret
    exact ⟨by rw [decide_eq_false E.out]; rfl, T4.out.trans (tch_drewN w4 nq)⟩
  have q1' : (3 : Int) ≤ lg := by omega
  by_cases q2 : lg ≤ 4000
  rotate_left
  · have E : Hid (¬ rcounts D i f) := NO.out (fun hh => q2 hh.2.2.2.2.2.2.1)
    have pb : ¬ (lg : Int) ≤ 4000 := by omega
    clear NO YES
    (refine wp_region_walk (C := fun w' => ∃ n, w' = World.drewN w4 n) 32 (by kernel_rfl) (by kernel_rfl) ⟨1, rfl⟩ ?_; simp only [List.take_succ_cons, List.take_zero, List.drop_succ_cons, List.drop_zero]; (repeat (first | fail | go_big_quiet_step (fail))); refine wpQuiet_nil ?_; intro _ hw'; obtain ⟨nq, hw''⟩ := hw'; subst hw'')
    go_wp2_with fail
    go_ret
    exact ⟨by rw [decide_eq_false E.out]; rfl, T4.out.trans (tch_drewN w4 nq)⟩
  have q2' : (lg : Int) ≤ 4000 := by omega
  by_cases q3 : 1 ≤ pg
  rotate_left
  · have E : Hid (¬ rcounts D i f) := NO.out (fun hh => q3 hh.2.2.2.2.2.2.2.1)
    have pb : ¬ (1 : Int) ≤ pg := by omega
    clear NO YES
    (refine wp_region_walk (C := fun w' => ∃ n, w' = World.drewN w4 n) 32 (by kernel_rfl) (by kernel_rfl) ⟨1, rfl⟩ ?_; simp only [List.take_succ_cons, List.take_zero, List.drop_succ_cons, List.drop_zero]; (repeat (first | fail | go_big_quiet_step (fail))); refine wpQuiet_nil ?_; intro _ hw'; obtain ⟨nq, hw''⟩ := hw'; subst hw'')
    go_wp2_with fail
    go_ret
    exact ⟨by rw [decide_eq_false E.out]; rfl, T4.out.trans (tch_drewN w4 nq)⟩
  have q3' : (1 : Int) ≤ pg := by omega
  by_cases q5 : 2 + lg + pg = len
  rotate_left
  · have E : Hid (¬ rcounts D i f) := NO.out (fun hh => q5 hh.2.2.2.2.2.2.2.2.1)
    have pb : ((2 + (lg : Int) + pg) == len) = false := by simp; omega
    clear NO YES
    (refine wp_region_walk (C := fun w' => ∃ n, w' = World.drewN w4 n) 32 (by kernel_rfl) (by kernel_rfl) ⟨1, rfl⟩ ?_; simp only [List.take_succ_cons, List.take_zero, List.drop_succ_cons, List.drop_zero]; (repeat (first | fail | go_big_quiet_step (fail))); refine wpQuiet_nil ?_; intro _ hw'; obtain ⟨nq, hw''⟩ := hw'; subst hw'')
    go_wp2_with fail
    go_ret
    exact ⟨by rw [decide_eq_false E.out]; rfl, T4.out.trans (tch_drewN w4 nq)⟩
  have q5' : ((2 + (lg : Int) + pg) == len) = true := by simp; omega
  have W53 : IntKind.i64.wrap ((2 : Int) + lg) = 2 + lg := by simp [IntKind.wrap, IntKind.bits, IntKind.signed]; omega
  have W55 : IntKind.i64.wrap ((2 : Int) + lg + pg) = 2 + lg + pg := by simp [IntKind.wrap, IntKind.bits, IntKind.signed]; omega
  refine wp_region_valt 29 (fun w' => Tch [] w4 w') (KCnt r L F lg pg len f.page) (by kernel_rfl) (by kernel_rfl) (by kernel_rfl) ((Tch.refl _ _).drew) (fun w4 w5 _ _ ht i v hk => hk.later ht) ?_ ?_
  · intro i o hi ho fu w' hC hold hdep
    have c0' := cell_old hC c0
    have hi7 : i = 0 ∨ i = 1 ∨ i = 2 ∨ i = 3 ∨ i = 4 ∨ i = 5 ∨ i = 6 ∨ i = 7 ∨ i = 8 ∨ i = 9 ∨ i = 10 ∨ i = 11 ∨ i = 12 ∨ i = 13 ∨ i = 14 ∨ i = 15 ∨ i = 16 ∨ i = 17 ∨ i = 18 ∨ i = 19 ∨ i = 20 ∨ i = 21 ∨ i = 22 ∨ i = 23 ∨ i = 24 ∨ i = 25 ∨ i = 26 ∨ i = 27 ∨ i = 28 := by omega
    rcases hi7 with rfl | rfl | rfl | rfl | rfl | rfl | rfl | rfl | rfl | rfl | rfl | rfl | rfl | rfl | rfl | rfl | rfl | rfl | rfl | rfl | rfl | rfl | rfl | rfl | rfl | rfl | rfl | rfl | rfl
    all_goals (simp only [List.getElem?_cons_zero, List.getElem?_cons_succ, Option.some.injEq] at ho; subst ho)
    · refine step_plain rfl ?_
      have x7 : fu.tmps[7]?.getD undef = .int .i64 lg := ev_tmp (hold 7 (by show _ < 72; omega) (by kernel_rfl))
      go_simp
      exact ⟨rfl, Tch.refl _ _⟩
    · refine step_plain rfl ?_
      have x41 : fu.tmps[41]?.getD undef = .int .i64 lg := ev_tmp (hdep 0 41 (by show _ < 72; omega) (by kernel_rfl) (by kernel_rfl))
      go_simp
      exact ⟨rfl, Tch.refl _ _⟩
    · refine step_plain rfl ?_
      have x42 : fu.tmps[42]?.getD undef = .bool true := ev_tmp (hdep 1 42 (by show _ < 72; omega) (by kernel_rfl) (by kernel_rfl))
      go_simp
      exact ⟨rfl, Tch.refl _ _⟩
    · refine step_guard (d := 43) rfl (by kernel_rfl) (ev_tmp (hdep 2 43 (by show _ < 72; omega) (by kernel_rfl) (by kernel_rfl))) ?_
      have x7 : fu.tmps[7]?.getD undef = .int .i64 lg := ev_tmp (hold 7 (by show _ < 72; omega) (by kernel_rfl))
      go_simp
      exact ⟨rfl, Tch.refl _ _⟩
    · refine step_guard (d := 43) rfl (by kernel_rfl) (ev_tmp (hdep 2 43 (by show _ < 72; omega) (by kernel_rfl) (by kernel_rfl))) ?_
      have x44 : fu.tmps[44]?.getD undef = .int .i64 lg := ev_tmp (hdep 3 44 (by show _ < 72; omega) (by kernel_rfl) (by kernel_rfl))
      go_simp
      exact ⟨rfl, Tch.refl _ _⟩
    · refine step_plain rfl ?_
      have x43 : fu.tmps[43]?.getD undef = .bool true := ev_tmp (hdep 2 43 (by show _ < 72; omega) (by kernel_rfl) (by kernel_rfl))
      have x45 : fu.tmps[45]?.getD undef = .bool true := ev_tmp (hdep 4 45 (by show _ < 72; omega) (by kernel_rfl) (by kernel_rfl))
      go_simp
      exact ⟨rfl, Tch.refl _ _⟩
    · refine step_plain rfl ?_
      have x46 : fu.tmps[46]?.getD undef = .bool true := ev_tmp (hdep 5 46 (by show _ < 72; omega) (by kernel_rfl) (by kernel_rfl))
      go_simp
      exact ⟨rfl, Tch.refl _ _⟩
    · refine step_guard (d := 47) rfl (by kernel_rfl) (ev_tmp (hdep 6 47 (by show _ < 72; omega) (by kernel_rfl) (by kernel_rfl))) ?_
      have x8 : fu.tmps[8]?.getD undef = .int .i64 pg := ev_tmp (hold 8 (by show _ < 72; omega) (by kernel_rfl))
      go_simp
      exact ⟨rfl, Tch.refl _ _⟩
    · refine step_guard (d := 47) rfl (by kernel_rfl) (ev_tmp (hdep 6 47 (by show _ < 72; omega) (by kernel_rfl) (by kernel_rfl))) ?_
      have x48 : fu.tmps[48]?.getD undef = .int .i64 pg := ev_tmp (hdep 7 48 (by show _ < 72; omega) (by kernel_rfl) (by kernel_rfl))
      go_simp
      exact ⟨rfl, Tch.refl _ _⟩
    · refine step_plain rfl ?_
      have x47 : fu.tmps[47]?.getD undef = .bool true := ev_tmp (hdep 6 47 (by show _ < 72; omega) (by kernel_rfl) (by kernel_rfl))
      have x49 : fu.tmps[49]?.getD undef = .bool true := ev_tmp (hdep 8 49 (by show _ < 72; omega) (by kernel_rfl) (by kernel_rfl))
      go_simp
      exact ⟨rfl, Tch.refl _ _⟩
    · refine step_plain rfl ?_
      have x50 : fu.tmps[50]?.getD undef = .bool true := ev_tmp (hdep 9 50 (by show _ < 72; omega) (by kernel_rfl) (by kernel_rfl))
      go_simp
      exact ⟨rfl, Tch.refl _ _⟩
    · refine step_guard (d := 51) rfl (by kernel_rfl) (ev_tmp (hdep 10 51 (by show _ < 72; omega) (by kernel_rfl) (by kernel_rfl))) ?_
      have x7 : fu.tmps[7]?.getD undef = .int .i64 lg := ev_tmp (hold 7 (by show _ < 72; omega) (by kernel_rfl))
      go_simp
      exact ⟨rfl, Tch.refl _ _⟩
    · refine step_guard (d := 51) rfl (by kernel_rfl) (ev_tmp (hdep 10 51 (by show _ < 72; omega) (by kernel_rfl) (by kernel_rfl))) ?_
      have x52 : fu.tmps[52]?.getD undef = .int .i64 lg := ev_tmp (hdep 11 52 (by show _ < 72; omega) (by kernel_rfl) (by kernel_rfl))
      go_simp
      exact ⟨rfl, Tch.refl _ _⟩
    · refine step_guard (d := 51) rfl (by kernel_rfl) (ev_tmp (hdep 10 51 (by show _ < 72; omega) (by kernel_rfl) (by kernel_rfl))) ?_
      have x8 : fu.tmps[8]?.getD undef = .int .i64 pg := ev_tmp (hold 8 (by show _ < 72; omega) (by kernel_rfl))
      go_simp
      exact ⟨rfl, Tch.refl _ _⟩
    · refine step_guard (d := 51) rfl (by kernel_rfl) (ev_tmp (hdep 10 51 (by show _ < 72; omega) (by kernel_rfl) (by kernel_rfl))) ?_
      have x53 : fu.tmps[53]?.getD undef = .int .i64 (2 + lg) := ev_tmp (hdep 12 53 (by show _ < 72; omega) (by kernel_rfl) (by kernel_rfl))
      have x54 : fu.tmps[54]?.getD undef = .int .i64 pg := ev_tmp (hdep 13 54 (by show _ < 72; omega) (by kernel_rfl) (by kernel_rfl))
      go_simp
      exact ⟨rfl, Tch.refl _ _⟩
    · refine step_guard (d := 51) rfl (by kernel_rfl) (ev_tmp (hdep 10 51 (by show _ < 72; omega) (by kernel_rfl) (by kernel_rfl))) ?_
      have x0 : fu.tmps[0]?.getD undef = .pointer (some ⟨r, 0, none⟩) := ev_tmp (hold 0 (by show _ < 72; omega) (by kernel_rfl))
      go_simp
      exact ⟨rfl, Tch.refl _ _⟩
    · refine step_guard (d := 51) rfl (by kernel_rfl) (ev_tmp (hdep 10 51 (by show _ < 72; omega) (by kernel_rfl) (by kernel_rfl))) ?_
      have x56 : fu.tmps[56]?.getD undef = .pointer (some ⟨r, 0, none⟩) := ev_tmp (hdep 15 56 (by show _ < 72; omega) (by kernel_rfl) (by kernel_rfl))
      go_simp
      exact ⟨rfl, Tch.refl _ _⟩
    · refine step_guard (d := 51) rfl (by kernel_rfl) (ev_tmp (hdep 10 51 (by show _ < 72; omega) (by kernel_rfl) (by kernel_rfl))) ?_
      have x57 : fu.tmps[57]?.getD undef = .pointer (some ⟨r, 0, none⟩) := ev_tmp (hdep 16 57 (by show _ < 72; omega) (by kernel_rfl) (by kernel_rfl))
      go_simp
      exact ⟨rfl, Tch.refl _ _⟩
    · refine step_guard (d := 51) rfl (by kernel_rfl) (ev_tmp (hdep 10 51 (by show _ < 72; omega) (by kernel_rfl) (by kernel_rfl))) ?_
      have x58 : fu.tmps[58]?.getD undef = .pointer (some ⟨r, 0, none⟩) := ev_tmp (hdep 17 58 (by show _ < 72; omega) (by kernel_rfl) (by kernel_rfl))
      go_simp
      exact ⟨rfl, Tch.refl _ _⟩
    · refine step_guard (d := 51) rfl (by kernel_rfl) (ev_tmp (hdep 10 51 (by show _ < 72; omega) (by kernel_rfl) (by kernel_rfl))) ?_
      have x59 : fu.tmps[59]?.getD undef = .slice (some ⟨L, 0, none⟩) len len := ev_tmp (hdep 18 59 (by show _ < 72; omega) (by kernel_rfl) (by kernel_rfl))
      go_simp
      exact ⟨rfl, Tch.refl _ _⟩
    · refine step_guard (d := 51) rfl (by kernel_rfl) (ev_tmp (hdep 10 51 (by show _ < 72; omega) (by kernel_rfl) (by kernel_rfl))) ?_
      have x55 : fu.tmps[55]?.getD undef = .int .i64 (2 + lg + pg) := ev_tmp (hdep 14 55 (by show _ < 72; omega) (by kernel_rfl) (by kernel_rfl))
      have x60 : fu.tmps[60]?.getD undef = .int .i64 len := ev_tmp (hdep 19 60 (by show _ < 72; omega) (by kernel_rfl) (by kernel_rfl))
      go_simp
      exact ⟨rfl, Tch.refl _ _⟩
    · refine step_plain rfl ?_
      have x51 : fu.tmps[51]?.getD undef = .bool true := ev_tmp (hdep 10 51 (by show _ < 72; omega) (by kernel_rfl) (by kernel_rfl))
      have x61 : fu.tmps[61]?.getD undef = .bool true := ev_tmp (hdep 20 61 (by show _ < 72; omega) (by kernel_rfl) (by kernel_rfl))
      go_simp
      exact ⟨rfl, Tch.refl _ _⟩
    · refine step_plain rfl ?_
      have x62 : fu.tmps[62]?.getD undef = .bool true := ev_tmp (hdep 21 62 (by show _ < 72; omega) (by kernel_rfl) (by kernel_rfl))
      go_simp
      exact ⟨rfl, Tch.refl _ _⟩
    · refine step_guard (d := 63) rfl (by kernel_rfl) (ev_tmp (hdep 22 63 (by show _ < 72; omega) (by kernel_rfl) (by kernel_rfl))) ?_
      have x5 : fu.tmps[5]?.getD undef = .pointer (some ⟨F, 0, none⟩) := ev_tmp (hold 5 (by show _ < 72; omega) (by kernel_rfl))
      go_simp
      exact ⟨rfl, Tch.refl _ _⟩
    · refine step_guard (d := 63) rfl (by kernel_rfl) (ev_tmp (hdep 22 63 (by show _ < 72; omega) (by kernel_rfl) (by kernel_rfl))) ?_
      have x64 : fu.tmps[64]?.getD undef = .pointer (some ⟨F, 4, none⟩) := ev_tmp (hdep 23 64 (by show _ < 72; omega) (by kernel_rfl) (by kernel_rfl))
      have x64' : fu.eval (.tmp 64) = .pointer (some ⟨F, 4, none⟩) := by show fu.tmps.getD 64 undef = _; rw [Array.getD_eq_getD_getElem?]; exact x64
      exact stpR_ok (exec_load_framepage pageT.agg rfl (hC.heap B7.out (by simp)) x64') ⟨rfl, hC, Tch.refl _ _⟩
    · refine step_guard (d := 63) rfl (by kernel_rfl) (ev_tmp (hdep 22 63 (by show _ < 72; omega) (by kernel_rfl) (by kernel_rfl))) ?_
      have x7 : fu.tmps[7]?.getD undef = .int .i64 lg := ev_tmp (hold 7 (by show _ < 72; omega) (by kernel_rfl))
      go_simp
      exact ⟨rfl, Tch.refl _ _⟩
    · refine step_guard (d := 63) rfl (by kernel_rfl) (ev_tmp (hdep 22 63 (by show _ < 72; omega) (by kernel_rfl) (by kernel_rfl))) ?_
      have x8 : fu.tmps[8]?.getD undef = .int .i64 pg := ev_tmp (hold 8 (by show _ < 72; omega) (by kernel_rfl))
      go_simp
      exact ⟨rfl, Tch.refl _ _⟩
    · refine step_guard (d := 63) rfl (by kernel_rfl) (ev_tmp (hdep 22 63 (by show _ < 72; omega) (by kernel_rfl) (by kernel_rfl))) ?_
      have x66 : fu.tmps[66]?.getD undef = .int .i64 lg := ev_tmp (hdep 25 66 (by show _ < 72; omega) (by kernel_rfl) (by kernel_rfl))
      have x67 : fu.tmps[67]?.getD undef = .int .i64 pg := ev_tmp (hdep 26 67 (by show _ < 72; omega) (by kernel_rfl) (by kernel_rfl))
      go_simp
      exact ⟨⟨_, rfl, ints_two _ _ _⟩, hC.alloc _, (Tch.refl _ _).alloc _⟩
    · refine step_guard (d := 63) rfl (by kernel_rfl) (ev_tmp (hdep 22 63 (by show _ < 72; omega) (by kernel_rfl) (by kernel_rfl))) ?_
      have x68 := hdep 27 68 (by show _ < 72; omega) (by kernel_rfl) (by kernel_rfl)
      obtain ⟨k, e19, h19⟩ := x68
      have x68 := ev_tmp e19
      have HN := Lib.hid (rnumbers_any (cap := 2) h19 (by simp))
      clear h19
      go_simp
      refine HN.out.mono ?_
      rintro e w5 ⟨rfl, q2⟩
      exact ⟨_, rfl, by rw [num32s_two _ _ (by omega) (by omega)]; rfl, hC.trans q2, q2⟩
  · intro vs w8 hC hK
    have x22 : vs 22 = .bool true := hK 22 (by omega)
    have x24 : vs 24 = .agg (secA f.page) := hK 24 (by omega)
    have x28 : vs 28 = .agg (secA (numsPage [lg, pg])) := hK 28 (by omega)
    have X22 := Lib.hid x22
    have X24 := Lib.hid x24
    have X28 := Lib.hid x28
    have T8 := Lib.hid (T4.out.trans hC)
    clear hK hC x22 x24 x28 c0
    unfold fullOf
    rw [show (List.range 29).map vs = [vs 0, vs 1, vs 2, vs 3, vs 4, vs 5, vs 6, vs 7, vs 8, vs 9, vs 10, vs 11, vs 12, vs 13, vs 14, vs 15, vs 16, vs 17, vs 18, vs 19, vs 20, vs 21, vs 22, vs 23, vs 24, vs 25, vs 26, vs 27, vs 28] from rfl, X22.out, X24.out, X28.out]
    generalize vs 0 = v0
    generalize vs 1 = v1
    generalize vs 2 = v2
    generalize vs 3 = v3
    generalize vs 4 = v4
    generalize vs 5 = v5
    generalize vs 6 = v6
    generalize vs 7 = v7
    generalize vs 8 = v8
    generalize vs 9 = v9
    generalize vs 10 = v10
    generalize vs 11 = v11
    generalize vs 12 = v12
    generalize vs 13 = v13
    generalize vs 14 = v14
    generalize vs 15 = v15
    generalize vs 16 = v16
    generalize vs 17 = v17
    generalize vs 18 = v18
    generalize vs 19 = v19
    generalize vs 20 = v20
    generalize vs 21 = v21
    generalize vs 23 = v23
    generalize vs 25 = v25
    generalize vs 26 = v26
    generalize vs 27 = v27
    clear X22 X24 X28 vs
    simp only [List.take_succ_cons, List.take_zero, List.drop_succ_cons, List.drop_zero, putAll]
    go_frame
    refine wcg_eql_arr pageT (s := f.page) (t := numsPage [lg, pg]) rfl rfl rfl ?_
    by_cases q6 : f.page = numsPage [lg, pg]
    · have hb : decide (f.page = numsPage [lg, pg]) = true := by simp [← q6]
      have E : Hid (rcounts D i f) := YES.out ⟨P2.out, P3.out, P4.out, p5, by rw [HGM.out]; exact P6.out, q1, q2, q3, q5, q6⟩
      clear q6
      rw [hb]
      go_frame
      go_wp2_with fail
      go_ret
      exact ⟨by rw [decide_eq_true E.out]; rfl, T8.out⟩
    · have hb : decide (f.page = numsPage [lg, pg]) = false := by simp [q6]
      have E : Hid (¬ rcounts D i f) := NO.out (fun hh => q6 hh.2.2.2.2.2.2.2.2.2)
      clear q6
      rw [hb]
      go_frame
      go_wp2_with fail
      go_ret
      exact ⟨by rw [decide_eq_false E.out]; rfl, T8.out⟩
end Go.Proofs.YthbaipljlbddcaaGreat
/-
  The document's log in memory: ciboriumref08.Log; told, frame.
-/
namespace Go.Proofs.YthbaipljlbddcaaGreat
open Go.RowKit Go.Cib
theorem wc_build_rf {ops : Array Oper} {rest : List Oper} {a : Act} {w : World} {Q : Exit → Act → World → Prop} {dst : Option Tmp} {ty : TypeId} {pos : String} {af : Array Edge} {ps : Array (Nat × Operand)} {l : List (Nat × Value)} {f : FrameV}
    (hf : fillF FrameV.zero l = some (frameA f)) (hl : ps.toList.map (fun q => (q.1, a.eval q.2)) = l) (h : wpList Tryz.prog ops Q rest (a.put dst (.agg (frameA f))) w) : wpList Tryz.prog ops Q (⟨dst, .build 75 ps, ty, pos, af, none⟩ :: rest) a w :=
  wc_value rfl (exec_build_rf hf hl) h
theorem wq_build_rf {ops : Array Oper} {C : World → Prop} {Qs : Act → Prop} {rest : List Oper} {a : Act} {dst : Option Tmp} {ty : TypeId} {pos : String} {af : Array Edge} {gd : Option (Nat × Bool)} {ps : Array (Nat × Operand)} {l : List (Nat × Value)} {f : FrameV}
    (hf : fillF FrameV.zero l = some (frameA f)) (hw : Region.wanted ⟨dst, .build 75 ps, ty, pos, af, gd⟩ (yielded ops a.tmps) = true) (hl : ps.toList.map (fun q => (q.1, a.eval q.2)) = l) (h : wpQuiet Tryz.prog ops C Qs rest (a.put dst (.agg (frameA f)))) :
    wpQuiet Tryz.prog ops C Qs (⟨dst, .build 75 ps, ty, pos, af, gd⟩ :: rest) a :=
  wq_value hw (fun _ _ => exec_build_rf hf hl) h
def hasP (S : LogS) : Array Value := ((List.range S.pages).map fun (i : Nat) => Value.bool (S.over (i : Int)).isSome).toArray
theorem size_hasP (S : LogS) : (hasP S).size = S.pages := by simp [hasP]
theorem hasP_get (S : LogS) (i : Nat) (h : i < S.pages) : (hasP S)[i]? = some (.bool (S.over (i : Int)).isSome) := by simp [hasP, h]
/-- Block g holds the document's log; its disk is block r (with a, b, c), its pages lie in blocks O, B. -/
structure RLogAt (w : World) (g r a b c O B : Nat) (S : LogS) : Prop where
  hg : w.heap[g]? = some (.cells #[.pointer (some ⟨r, 0, none⟩), .int .i64 S.log, .int .i64 S.pages, .int .u64 S.gen, .int .i64 S.used, .int .u64 S.records, .slice (some ⟨O, 0, none⟩) S.pages S.pages, .slice (some ⟨B, 0, none⟩) S.pages S.pages, .bool S.dead] 52)
  hD : RefAt w r a b c S.disk
  hO : ∃ ls : List Page, w.heap[O]? = some (.cells (secsA ls) 64) ∧ ls.length = S.pages ∧ ∀ (i : Nat) x, i < S.pages → S.over (i : Int) = some x → ls[i]? = some x
  hB : w.heap[B]? = some (.cells (hasP S) 4)
  ng : g ∉ [r, a, b, c, O, B]
  nO : O ∉ [r, a, b, c, B]
  nB : B ∉ [r, a, b, c]
theorem RLogAt.touch {w w' : World} {g r a b c O B : Nat} {S : LogS} {X : List Nat} (h : RLogAt w g r a b c O B S) (ht : Tch X w w') (hX : ∀ k ∈ [g, r, a, b, c, O, B], k ∉ X) : RLogAt w' g r a b c O B S := by
  refine ⟨ht.heap h.hg (hX _ (by simp)), h.hD.touch ht (hX _ (by simp)) (hX _ (by simp)) (hX _ (by simp)) (hX _ (by simp)), ?_, ht.heap h.hB (hX _ (by simp)), h.ng, h.nO, h.nB⟩
  obtain ⟨ls, h1, h2⟩ := h.hO
  exact ⟨ls, ht.heap h1 (hX _ (by simp)), h2⟩
theorem RLogAt.old {w w' : World} {g r a b c O B : Nat} {S : LogS} (h : RLogAt w g r a b c O B S) (ht : Tch [] w w') : RLogAt w' g r a b c O B S := h.touch ht (by simp)
theorem RLogAt.cell {w : World} {g r a b c O B : Nat} {S : LogS} (h : RLogAt w g r a b c O B S) (j : Nat) {v : Value}
    (hv : (#[.pointer (some ⟨r, 0, none⟩), .int .i64 S.log, .int .i64 S.pages, .int .u64 S.gen, .int .i64 S.used, .int .u64 S.records, .slice (some ⟨O, 0, none⟩) S.pages S.pages, .slice (some ⟨B, 0, none⟩) S.pages S.pages, .bool S.dead] : Array Value)[j]? = some v) : w.cell? ⟨g, j, none⟩ = some v := by
  rw [cell_of_row w g j _ _ _ h.hg]; exact hv
theorem RLogAt.froz {w : World} {g r a b c O B : Nat} {S : LogS} (h : RLogAt w g r a b c O B S) (j : Nat) : w.frozen? ⟨g, j, none⟩ = false := frozen_of_row w g j _ _ h.hg
/-- The head alone was written; disk, pages as they were. -/
theorem RLogAt.head {w w' : World} {g r a b c O B : Nat} {S S' : LogS} (h : RLogAt w g r a b c O B S) (ht : Tch [g] w w') (h1 : S'.disk = S.disk) (h2 : S'.pages = S.pages) (h3 : S'.over = S.over)
    (hg : w'.heap[g]? = some (.cells #[.pointer (some ⟨r, 0, none⟩), .int .i64 S'.log, .int .i64 S'.pages, .int .u64 S'.gen, .int .i64 S'.used, .int .u64 S'.records, .slice (some ⟨O, 0, none⟩) S'.pages S'.pages, .slice (some ⟨B, 0, none⟩) S'.pages S'.pages, .bool S'.dead] 52)) : RLogAt w' g r a b c O B S' := by
  have hn := h.ng
  simp only [List.mem_cons, List.not_mem_nil, or_false, not_or] at hn
  obtain ⟨n1, n2, n3, n4, n5, n6⟩ := hn
  refine ⟨hg, by rw [h1]; exact h.hD.touch ht (by simpa using Ne.symm n1) (by simpa using Ne.symm n2) (by simpa using Ne.symm n3) (by simpa using Ne.symm n4), ?_, ?_, h.ng, h.nO, h.nB⟩
  · obtain ⟨ls, g1, g2⟩ := h.hO
    exact ⟨ls, ht.heap g1 (by simpa using Ne.symm n5), by rw [h2, h3]; exact g2⟩
  · rw [show hasP S' = hasP S by unfold hasP; rw [h2, h3]]
    exact ht.heap h.hB (by simpa using Ne.symm n6)
set_option maxRecDepth 20000 in
set_option maxHeartbeats 400000 in
theorem rtold_any {w : World} {g r a b c O B : Nat} {S : LogS} (h : RLogAt w g r a b c O B S) (e : Int) :
    Calls Tryz.prog 63 #[.pointer (some ⟨g, 0, none⟩), .int .i64 e] w fun x w' => x = .returned (.int .i64 e) ∧ RLogAt w' g r a b c O B { S with dead := S.dead || e == 6 } ∧ Tch [g] w w' := by
  have c7 := h.cell 8 rfl
  have f7 := h.froz 8
  have H := Lib.hid h
  clear h
  by_cases h6 : e = 6
  · subst h6
    go_enter Tryz.func63, Tryz.ntmps63
    go_wp2
    go_ret
    have ht : Tch [g] w (w.setCell ⟨g, 8, none⟩ (.bool true)) := (Tch.refl _ _).setCell (by simp) _
    have hh := H.out
    refine ⟨rfl, hh.head ht rfl rfl rfl ?_, ht⟩
    rw [heap_setCell_cells hh.hg _ _]
    simp
  · go_enter Tryz.func63, Tryz.ntmps63
    go_wp2
    go_ret
    have hs : ({ S with dead := S.dead || e == 6 } : LogS) = S := by
      have : (e == 6) = false := by simpa using h6
      rw [this, Bool.or_false]
    rw [hs]
    exact ⟨rfl, H.out, Tch.refl _ _⟩

set_option maxRecDepth 20000 in
set_option maxHeartbeats 2000000 in
theorem rframe_any {w : World} {g r a b c O B : Nat} {S : LogS} (h : RLogAt w g r a b c O B S) (hd : S.disk.dead = false) (hs : 2 + S.log ≤ S.disk.lasts.length) (place : Nat) (hp : place ≤ 100000) (kind : UInt8) :
    Calls Tryz.prog 85 #[.pointer (some ⟨g, 0, none⟩), .int .i64 place, .int .u8 kind.toNat] w fun e w' =>
      e = .returned (.tuple #[.agg (frameA (S.atF place)), .bool (S.atOk place kind)]) ∧ Tch [] w w' := by
  obtain ⟨W, hW⟩ : ∃ W, w.alloc (.cells (frameA FrameV.zero) 75) = W := ⟨_, rfl⟩
  have tW : Tch [] w W := by rw [← hW]; exact (Tch.refl _ _).alloc _
  have bW : W.heap[w.heap.size]? = some (.cells (frameA FrameV.zero) 75) := by rw [← hW]; exact heap_alloc_new _ _
  have hWs : w.heap.size < W.heap.size := lt_of_heap bW
  have h1 := h.old tW
  have c1 := h1.cell 1 rfl
  have c0 := h1.cell 0 rfl
  have HW := Lib.hid hW
  have TW := Lib.hid tW
  have BW := Lib.hid bW
  have H1 := Lib.hid h1
  clear hW tW bW h1 h
  by_cases hpl : place < S.log
  · have hpl' : (place : Int) < S.log := by omega
    obtain ⟨s, hsx⟩ : ∃ s, S.disk.at_ ((2 + place : Nat) : Int) = s := ⟨_, rfl⟩
    obtain ⟨f, hf⟩ : ∃ f, parse s = f := ⟨_, rfl⟩
    have hr : S.disk.read (2 + place) = (s, 0) := by
      have := read_alive hd (i := 2 + place) (by omega)
      rw [hsx] at this
      exact this
    have eF : S.atF place = f := by unfold LogS.atF; rw [if_pos hpl, hsx, hf]
    have eO : S.atOk place kind = (decide (f.sector = s) && decide (f.kind = kind) && decide (f.gen = S.gen) && decide (f.num = S.records)) := by
      unfold LogS.atOk
      rw [eF, hsx, hf, decide_eq_true hpl, Bool.true_and]
    have hfo : f.Ok := hf ▸ parse_ok s
    have EF := Lib.hid eF
    have EO := Lib.hid eO
    have HR := Lib.hid hr
    have HF := Lib.hid hf
    have WP : wrap64 (2 + (place : Int)) = 2 + place := by unfold wrap64; omega
    clear eF eO hr hf hsx
    go_enter Tryz.func85, Tryz.ntmps85
    go_upto_region 1 with ((with_reducible refine wc_alloc_frame rframeTT ?_); go_frame)
    rw [HW.out]
    go_upto_region 6 with (first | (go_at_call 56; go_loud (refine (refRead_any H1.out.hD _).mono ?_; rintro e w2 ⟨rfl, q1⟩; rw [HR.out]; have T2 := Lib.hid q1; clear q1)) | ((with_reducible refine wc_alloc_arr secT ?_); go_frame; (try simp only [World.size_alloc])) | ((with_reducible apply wc_store_new secT); exact rfl; exact rfl; go_frame))
    obtain ⟨w3, hw3⟩ : ∃ w3, w2.alloc (.cells (secA s) 26) = w3 := ⟨_, rfl⟩
    have HW3 := Lib.hid hw3
    have b3 : Hid (w3.heap[w2.heap.size]? = some (.cells (secA s) 26)) := by show _ = _; rw [← hw3]; exact heap_alloc_new _ _
    have T3 : Hid (Tch [] W w3) := by show Tch _ _ _; rw [← hw3]; exact T2.out.alloc _
    rw [hw3]
    clear hw3 c1 c0
    go_upto_region 7 with (first | ((with_reducible apply wc_load_var secT b3.out); exact rfl; go_frame) | (go_at_call 57; refine (rread_any s _).mono ?_; rintro e w4 ⟨rfl, q1⟩; rw [HF.out]; have T4 := Lib.hid q1; clear q1) | ((with_reducible refine wc_alloc_frame rframeTT ?_); go_frame) | ((with_reducible apply wc_store_frame rframeTT (heap_alloc_new w4 (.cells (frameA FrameV.zero) 75)) (g := f)); exact rfl; exact rfl; go_frame; rw [setRow_alloc_new]))
    obtain ⟨F, hF⟩ : ∃ F, w4.heap.size = F := ⟨_, rfl⟩
    obtain ⟨W5, hW5⟩ : ∃ W5, w4.alloc (.cells (frameA f) 75) = W5 := ⟨_, rfl⟩
    have b5 : W5.heap[F]? = some (.cells (frameA f) 75) := by rw [← hW5, ← hF]; exact heap_alloc_new _ _
    have t5 : Tch [] W W5 := by rw [← hW5]; exact ((T3.out.trans T4.out)).alloc _
    have hFw : w.heap.size < F := by have h1 := T3.out.size; have h2 := T4.out.size; omega
    have bR5 := t5.heap BW.out (by simp)
    obtain ⟨W6, hW6⟩ : ∃ W6, W5.setRow w.heap.size (frameA f) = W6 := ⟨_, rfl⟩
    have t56 : Tch [w.heap.size] W5 W6 := by rw [← hW6]; exact (Tch.refl _ _).setRow (.inl (by simp)) _
    have bF6 := t56.heap b5 (by simp; omega)
    have b6 : W6.heap[w.heap.size]? = some (.cells (frameA f) 75) := by rw [← hW6]; exact setRow_heap _ _ _ _ _ _ bR5
    have h5 := H1.out.old t5
    have hgw : g < w.heap.size := by
      have hg1 := lt_of_heap H1.out.hg
      have hg2 : W.heap.size = w.heap.size + 1 := by rw [← HW.out]; simp
      rcases Nat.lt_or_ge g w.heap.size with hlt | hge
      · exact hlt
      · exfalso
        have hgeq : g = w.heap.size := by omega
        have hh := H1.out.hg
        rw [hgeq, BW.out] at hh
        have := congrArg (fun o => match o with | some (Obj.cells c _ _) => c.size | _ => 0) hh
        simp [size_frameA] at this
    have g56 : ∀ j : Nat, W6.cell? ⟨g, j, none⟩ = W5.cell? ⟨g, j, none⟩ := fun j => World.cell?_of_block (w := W5) (t56.block g (lt_of_heap h5.hg) (by simp; omega))
    obtain ⟨q0, q1, q2, _⟩ := frame_cell b5
    obtain ⟨r0, r1, r2, _⟩ := frame_cell bF6
    have CC : Hid (∀ b : Bool, (cond b W6 W5).cell? ⟨F, 0, none⟩ = some (.int .u8 f.kind.toNat) ∧ (cond b W6 W5).cell? ⟨F, 1, none⟩ = some (.int .u64 f.gen) ∧ (cond b W6 W5).cell? ⟨F, 2, none⟩ = some (.int .u64 f.num) ∧
        (cond b W6 W5).cell? ⟨g, 3, none⟩ = some (.int .u64 S.gen) ∧ (cond b W6 W5).cell? ⟨g, 5, none⟩ = some (.int .u64 S.records) ∧ (cond b W6 W5).heap[F]? = some (.cells (frameA f) 75)) := fun b => by
      cases b
      · exact ⟨q0, q1, q2, h5.cell 3 rfl, h5.cell 5 rfl, b5⟩
      · exact ⟨r0, r1, r2, (g56 3).trans (h5.cell 3 rfl), (g56 5).trans (h5.cell 5 rfl), bF6⟩
    have B5 : Hid (∀ n, (W5.drewN n).heap[w.heap.size]? = some (.cells (frameA FrameV.zero) 75)) := fun n => bR5
    have B6 : Hid (∀ n, (W6.drewN n).heap[w.heap.size]? = some (.cells (frameA f) 75)) := fun n => b6
    have H6 := Lib.hid hW6
    have T6 : Hid (Tch [] w W6) := tch_own (TW.out.trans t5) t56 (by simp)
    have HFF := Lib.hid hF
    have HW5 := Lib.hid hW5
    rw [hF, hW5]
    clear hF hW5 b5 t5 bR5 hW6 t56 bF6 b6 h5 g56 q0 q1 q2 r0 r1 r2 b3 HW3 T3 T4 T2
    by_cases h1 : f.sector = s
    · by_cases h2 : f.kind = kind
      · by_cases h3 : f.gen = S.gen
        · by_cases h4 : f.num = S.records
          · have p1 : decide (f.sector = s) = true := by simp [h1]
            rw [p1]
            have p2 : ((f.kind.toNat : Int) == kind.toNat) = true := by simp [h2]
            have p3 : ((f.gen : Int) == S.gen) = true := by simp [h3]
            have p4 : ((f.num : Int) == S.records) = true := by simp [h4]
            (try have G1 := Lib.hid h1); (try have G2 := Lib.hid h2); (try have G3 := Lib.hid h3); (try have G4 := Lib.hid h4); (try clear h4); (try clear h3); (try clear h2); (try clear h1); clear p1
            refine wp_region_walk_end 26 (fun b w' => ∃ n, w' = World.drewN (cond b W6 W5) n) (by kernel_rfl) (by kernel_rfl) rfl (N := 63) rfl (by kernel_rfl) ⟨1, rfl⟩ ?_; apply Exists.intro; refine ⟨?_, ?_, ?_⟩
            ·
              intro b
              have k0 := (CC.out b).1
              have k1 := (CC.out b).2.1
              have k2 := (CC.out b).2.2.1
              have k3 := (CC.out b).2.2.2.1
              have k5 := (CC.out b).2.2.2.2.1
              have KF : Hid (∀ w', (∃ n, w' = World.drewN (cond b W6 W5) n) → w'.heap[F]? = some (.cells (frameA f) 75)) := fun w' ⟨n, hn⟩ => by subst hn; exact (CC.out b).2.2.2.2.2
              simp only [List.take_succ_cons, List.take_zero]
              (repeat (first | ((with_reducible refine wq_load_frame rframeTT KF.out ?_ ?_ ?_); exact rfl; exact rfl; go_frame) | go_big_quiet_step (fail)))
              refine wpQuiet_nil ?_
              exact rfl
            ·
              intro o W ho hW
              simp only [List.getElem?_cons_zero, List.getElem?_cons_succ, Option.some.injEq] at ho
              subst ho
              obtain ⟨n, rfl⟩ := hW
              refine ⟨rfl, ?_⟩
              exact stpR_skip (exec_store_frame (g := f) rframeTT rfl (B5.out n) rfl rfl) ⟨rfl, n, by rw [← H6.out]; rfl⟩
            ·
              rintro wZ ⟨n, rfl⟩
              simp only [cond_true, List.drop_succ_cons, List.drop_zero]
              go_wp2_with fail
              refine bodyPost_ret (res_cell_tmp rframeT rfl _ rfl (B6.out n) (size_frameA _)) rfl ?_
              rw [EF.out, EO.out]
              refine ⟨by simp [G1.out, G2.out, G3.out, G4.out], ?_⟩
              exact T6.out.trans (tch_drewN W6 n)
          · have p1 : decide (f.sector = s) = true := by simp [h1]
            rw [p1]
            have p2 : ((f.kind.toNat : Int) == kind.toNat) = true := by simp [h2]
            have p3 : ((f.gen : Int) == S.gen) = true := by simp [h3]
            have p4 : ((f.num : Int) == S.records) = false := by simp; omega
            (try have G1 := Lib.hid h1); (try have G2 := Lib.hid h2); (try have G3 := Lib.hid h3); (try have G4 := Lib.hid h4); (try clear h4); (try clear h3); (try clear h2); (try clear h1); clear p1
            refine wp_region_walk_end 26 (fun b w' => ∃ n, w' = World.drewN (cond b W6 W5) n) (by kernel_rfl) (by kernel_rfl) rfl (N := 63) rfl (by kernel_rfl) ⟨1, rfl⟩ ?_; apply Exists.intro; refine ⟨?_, ?_, ?_⟩
            ·
              intro b
              have k0 := (CC.out b).1
              have k1 := (CC.out b).2.1
              have k2 := (CC.out b).2.2.1
              have k3 := (CC.out b).2.2.2.1
              have k5 := (CC.out b).2.2.2.2.1
              have KF : Hid (∀ w', (∃ n, w' = World.drewN (cond b W6 W5) n) → w'.heap[F]? = some (.cells (frameA f) 75)) := fun w' ⟨n, hn⟩ => by subst hn; exact (CC.out b).2.2.2.2.2
              simp only [List.take_succ_cons, List.take_zero]
              (repeat (first | ((with_reducible refine wq_load_frame rframeTT KF.out ?_ ?_ ?_); exact rfl; exact rfl; go_frame) | go_big_quiet_step (fail)))
              refine wpQuiet_nil ?_
              exact rfl
            ·
              intro o W ho hW
              simp only [List.getElem?_cons_zero, List.getElem?_cons_succ, Option.some.injEq] at ho
              subst ho
              obtain ⟨n, rfl⟩ := hW
              refine ⟨rfl, ?_⟩
              exact stpR_skip (exec_store_frame (g := f) rframeTT rfl (B5.out n) rfl rfl) ⟨rfl, n, by rw [← H6.out]; rfl⟩
            ·
              rintro wZ ⟨n, rfl⟩
              simp only [cond_true, List.drop_succ_cons, List.drop_zero]
              go_wp2_with fail
              refine bodyPost_ret (res_cell_tmp rframeT rfl _ rfl (B6.out n) (size_frameA _)) rfl ?_
              rw [EF.out, EO.out]
              refine ⟨by simp [G1.out, G2.out, G3.out, G4.out], ?_⟩
              exact T6.out.trans (tch_drewN W6 n)
        · have p1 : decide (f.sector = s) = true := by simp [h1]
          rw [p1]
          have p2 : ((f.kind.toNat : Int) == kind.toNat) = true := by simp [h2]
          have p3 : ((f.gen : Int) == S.gen) = false := by simp; omega
          (try have G1 := Lib.hid h1); (try have G2 := Lib.hid h2); (try have G3 := Lib.hid h3); (try have G4 := Lib.hid h4); (try clear h4); (try clear h3); (try clear h2); (try clear h1); clear p1
          refine wp_region_walk_end 26 (fun b w' => ∃ n, w' = World.drewN (cond b W6 W5) n) (by kernel_rfl) (by kernel_rfl) rfl (N := 63) rfl (by kernel_rfl) ⟨1, rfl⟩ ?_; apply Exists.intro; refine ⟨?_, ?_, ?_⟩
          ·
            intro b
            have k0 := (CC.out b).1
            have k1 := (CC.out b).2.1
            have k2 := (CC.out b).2.2.1
            have k3 := (CC.out b).2.2.2.1
            have k5 := (CC.out b).2.2.2.2.1
            have KF : Hid (∀ w', (∃ n, w' = World.drewN (cond b W6 W5) n) → w'.heap[F]? = some (.cells (frameA f) 75)) := fun w' ⟨n, hn⟩ => by subst hn; exact (CC.out b).2.2.2.2.2
            simp only [List.take_succ_cons, List.take_zero]
            (repeat (first | ((with_reducible refine wq_load_frame rframeTT KF.out ?_ ?_ ?_); exact rfl; exact rfl; go_frame) | go_big_quiet_step (fail)))
            refine wpQuiet_nil ?_
            exact rfl
          ·
            intro o W ho hW
            simp only [List.getElem?_cons_zero, List.getElem?_cons_succ, Option.some.injEq] at ho
            subst ho
            obtain ⟨n, rfl⟩ := hW
            refine ⟨rfl, ?_⟩
            exact stpR_skip (exec_store_frame (g := f) rframeTT rfl (B5.out n) rfl rfl) ⟨rfl, n, by rw [← H6.out]; rfl⟩
          ·
            rintro wZ ⟨n, rfl⟩
            simp only [cond_true, List.drop_succ_cons, List.drop_zero]
            go_wp2_with fail
            refine bodyPost_ret (res_cell_tmp rframeT rfl _ rfl (B6.out n) (size_frameA _)) rfl ?_
            rw [EF.out, EO.out]
            refine ⟨by simp [G1.out, G2.out, G3.out], ?_⟩
            exact T6.out.trans (tch_drewN W6 n)
      · have p1 : decide (f.sector = s) = true := by simp [h1]
        rw [p1]
        have p2 : ((f.kind.toNat : Int) == kind.toNat) = false := by
          simp only [beq_eq_false_iff_ne, ne_eq]
          intro e
          exact h2 (UInt8.toNat_inj.1 (by omega))
        (try have G1 := Lib.hid h1); (try have G2 := Lib.hid h2); (try have G3 := Lib.hid h3); (try have G4 := Lib.hid h4); (try clear h4); (try clear h3); (try clear h2); (try clear h1); clear p1
        refine wp_region_walk_end 26 (fun b w' => ∃ n, w' = World.drewN (cond b W6 W5) n) (by kernel_rfl) (by kernel_rfl) rfl (N := 63) rfl (by kernel_rfl) ⟨1, rfl⟩ ?_; apply Exists.intro; refine ⟨?_, ?_, ?_⟩
        ·
          intro b
          have k0 := (CC.out b).1
          have k1 := (CC.out b).2.1
          have k2 := (CC.out b).2.2.1
          have k3 := (CC.out b).2.2.2.1
          have k5 := (CC.out b).2.2.2.2.1
          have KF : Hid (∀ w', (∃ n, w' = World.drewN (cond b W6 W5) n) → w'.heap[F]? = some (.cells (frameA f) 75)) := fun w' ⟨n, hn⟩ => by subst hn; exact (CC.out b).2.2.2.2.2
          simp only [List.take_succ_cons, List.take_zero]
          (repeat (first | ((with_reducible refine wq_load_frame rframeTT KF.out ?_ ?_ ?_); exact rfl; exact rfl; go_frame) | go_big_quiet_step (fail)))
          refine wpQuiet_nil ?_
          exact rfl
        ·
          intro o W ho hW
          simp only [List.getElem?_cons_zero, List.getElem?_cons_succ, Option.some.injEq] at ho
          subst ho
          obtain ⟨n, rfl⟩ := hW
          refine ⟨rfl, ?_⟩
          exact stpR_skip (exec_store_frame (g := f) rframeTT rfl (B5.out n) rfl rfl) ⟨rfl, n, by rw [← H6.out]; rfl⟩
        ·
          rintro wZ ⟨n, rfl⟩
          simp only [cond_true, List.drop_succ_cons, List.drop_zero]
          go_wp2_with fail
          refine bodyPost_ret (res_cell_tmp rframeT rfl _ rfl (B6.out n) (size_frameA _)) rfl ?_
          rw [EF.out, EO.out]
          refine ⟨by simp [G1.out, G2.out], ?_⟩
          exact T6.out.trans (tch_drewN W6 n)
    · have p1 : decide (f.sector = s) = false := by simp [h1]
      rw [p1]
      (try have G1 := Lib.hid h1); (try have G2 := Lib.hid h2); (try have G3 := Lib.hid h3); (try have G4 := Lib.hid h4); (try clear h4); (try clear h3); (try clear h2); (try clear h1); clear p1
      refine wp_region_walk_end 26 (fun b w' => ∃ n, w' = World.drewN (cond b W6 W5) n) (by kernel_rfl) (by kernel_rfl) rfl (N := 63) rfl (by kernel_rfl) ⟨1, rfl⟩ ?_; apply Exists.intro; refine ⟨?_, ?_, ?_⟩
      ·
        intro b
        have k0 := (CC.out b).1
        have k1 := (CC.out b).2.1
        have k2 := (CC.out b).2.2.1
        have k3 := (CC.out b).2.2.2.1
        have k5 := (CC.out b).2.2.2.2.1
        have KF : Hid (∀ w', (∃ n, w' = World.drewN (cond b W6 W5) n) → w'.heap[F]? = some (.cells (frameA f) 75)) := fun w' ⟨n, hn⟩ => by subst hn; exact (CC.out b).2.2.2.2.2
        simp only [List.take_succ_cons, List.take_zero]
        (repeat (first | ((with_reducible refine wq_load_frame rframeTT KF.out ?_ ?_ ?_); exact rfl; exact rfl; go_frame) | go_big_quiet_step (fail)))
        refine wpQuiet_nil ?_
        exact rfl
      ·
        intro o W ho hW
        simp only [List.getElem?_cons_zero, List.getElem?_cons_succ, Option.some.injEq] at ho
        subst ho
        obtain ⟨n, rfl⟩ := hW
        refine ⟨rfl, ?_⟩
        exact stpR_skip (exec_store_frame (g := f) rframeTT rfl (B5.out n) rfl rfl) ⟨rfl, n, by rw [← H6.out]; rfl⟩
      ·
        rintro wZ ⟨n, rfl⟩
        simp only [cond_true, List.drop_succ_cons, List.drop_zero]
        go_wp2_with fail
        refine bodyPost_ret (res_cell_tmp rframeT rfl _ rfl (B6.out n) (size_frameA _)) rfl ?_
        rw [EF.out, EO.out]
        refine ⟨by simp [G1.out], ?_⟩
        exact T6.out.trans (tch_drewN W6 n)
  · have hpl' : (S.log : Int) ≤ place := by omega
    have eF : S.atF place = FrameV.zero := by unfold LogS.atF; rw [if_neg hpl]; rfl
    have eO : S.atOk place kind = false := by unfold LogS.atOk; rw [decide_eq_false hpl]; simp
    have EF := Lib.hid eF
    have EO := Lib.hid eO
    have FILL : Hid (fillF FrameV.zero [] = some (frameA FrameV.zero)) := rfl
    clear eF eO
    go_enter Tryz.func85, Tryz.ntmps85
    go_upto_region 1 with ((with_reducible refine wc_alloc_frame rframeTT ?_); go_frame)
    rw [HW.out]
    go_wp2_with (first | ((with_reducible refine wc_build_rf FILL.out ?_ ?_); exact rfl; go_frame) | ((with_reducible apply wc_store_frame rframeTT BW.out (g := FrameV.zero)); exact rfl; exact rfl; go_frame))
    refine bodyPost_ret (res_cell_tmp rframeT rfl _ rfl (setRow_heap _ _ _ _ _ _ BW.out) (size_frameA _)) rfl ?_
    rw [EF.out, EO.out]
    exact ⟨rfl, TW.out.setRow (.inr (Nat.le_refl _)) _⟩
end Go.Proofs.YthbaipljlbddcaaGreat
