/-
  The check of a sector: 'sum'.
-/
import Derived.Test.YtkjgbhpnlgcinaaGreatDoorRows
import Derived.Test.YtkjgbhpnlgcinaaGreatDoorMF1
import Derived.Test.YtkjgbhpnlgcinaaGreatDoorMD3
import Derived.Deep.LoopGhost
import Derived.Deep.CutBlock
import Derived.Deep.DeepCutAuto
namespace Go.Cib
open Go Go.RowKit
section
variable {n : Nat} {P : Program} {T : TypeId} {ops : Array Oper} {rest : List Oper} {a : Act} {w : World} {Q : Exit → Act → World → Prop} {dst : Option Tmp} {ty : TypeId} {pos : String} {af : Array Edge} {x y : Operand} {gd : Option (Nat × Bool)}
theorem exec_index_arr (hT : BytesT P T n) {s : Arr n} {i : Nat} {b : UInt8} (hx : a.eval x = .agg (secA s)) (hy : a.eval y = .int .i64 i) (hi : s.l[i]? = some b) :
    (execOp a.eval ⟨dst, .index T x y, ty, pos, af, gd⟩).run P w = .ok (.value (bv b)) w := by
  obtain ⟨E, inf, h1, h2, h3, h4⟩ := hT.und
  have hin := (List.getElem?_eq_some_iff.1 hi).1
  rw [s.h] at hin
  have hp := run_part_byte (P := P) h2 h3 w s.l i b hi
  unfold execOp
  simp only [hx, hy]
  simp [Instr.index, asIntOf, Sem.run_bind, run_underlying h1, sizeOf, typeInfo, h3, h4, hin, secA, hp]
theorem wc_index_arr (hT : BytesT P T n) {s : Arr n} {i : Nat} {b : UInt8} (hi : s.l[i]? = some b) (hx : a.eval x = .agg (secA s)) (hy : a.eval y = .int .i64 i)
    (h : wpList P ops Q rest (a.put dst (.int .u8 b.toNat)) w) : wpList P ops Q (⟨dst, .index T x y, ty, pos, af, none⟩ :: rest) a w :=
  wc_value rfl (exec_index_arr hT hx hy hi) h
end
end Go.Cib
namespace Go.Proofs.YtkjgbhpnlgcinaaGreatDoor
open Go.RowKit Go.Cib

set_option maxRecDepth 20000 in
set_option maxHeartbeats 1000000 in
theorem sum_any (s : Sec) (w : World) : Calls Tryz.prog 144 #[.agg (secA s)] w fun e w' => e = .returned (.int .u32 (crcOf s.l)) ∧ Tch [] w w' := by
  have ht : Tch [] w (w.alloc (.cells (secA s) 124)) := (Tch.refl _ _).alloc _
  have HT := Lib.hid ht
  clear ht
  go_enter Tryz.func144, Tryz.ntmps144
  go_wp2_with (first | ((with_reducible apply wc_load_new secT); exact rfl; go_frame))
  generalize w.alloc (.cells (secA s) 124) = w1 at *
  go_loopg [3, 4, 5, 6, 8] 512 (fun q c _ _ _ k wr => ∃ j, OnAt 512 k q j ∧ c = .int .u32 (crcTo s.l j) ∧ w1 = wr)
  case atStart => exact ⟨0, ⟨Nat.zero_le _, rfl, rfl⟩, rfl, rfl⟩
  case round =>
    obtain ⟨j, ⟨hj, rfl, rfl⟩, rfl, rfl⟩ := hrel
    have hc := crcTo_lt s.l j
    have hcs : crcTo s.l (j + 1) = crcBits 8 (if j < 28 ∨ 32 ≤ j then crcTo s.l j ^^^ (s.l.getD j 0).toNat else crcTo s.l j) := rfl
    by_cases hjn : j < 512
    · have hx : s.l[j]? = some (s.l.getD j 0) := by simp [s.h, hjn]
      have hb := (s.l.getD j 0).toNat_lt
      generalize s.l.getD j 0 = b at *
      generalize hg : crcTo s.l j = c0 at *
      have HX := Lib.hid hx
      have HCS := Lib.hid hcs
      clear hx hcs hg
      have hX := Lib.hid (u32_xor_nat c0 b.toNat hc (by omega))
      obtain ⟨X0, hX0⟩ : ∃ X0, (if j < 28 ∨ 32 ≤ j then c0 ^^^ b.toNat else c0) = X0 := ⟨_, rfl⟩
      have hXl : X0 < 4294967296 := by
        rw [← hX0]; split
        · exact xor_lt32 hc (by omega)
        · exact hc
      have HX0 := Lib.hid hX0
      clear hX0
      obtain ⟨B, hB⟩ : ∃ B, decide (j < 28 ∨ 32 ≤ j) = B := ⟨_, rfl⟩
      have HB := Lib.hid hB
      clear hB
      go_upto_region 5 with ((with_reducible apply wc_index_arr secT HX.out); exact rfl; exact rfl; go_frame)
      go_cut [8, 17] from 8 to 33 (fun k t wx => k = .int .i64 j ∧ t = .bool B ∧ w1 = wx)
      case first =>
        by_cases h28 : j < 28
        · have e : B = true := by rw [← HB.out]; simp [h28]
          have E := Lib.hid e
          clear e
          go_wp2_with fail
          go_meet
          exact ⟨rfl, by rw [E.out], rfl⟩
        · by_cases h32 : 32 ≤ j
          · have e : B = true := by rw [← HB.out]; simp [h32]
            have E := Lib.hid e
            clear e
            go_wp2_with fail
            go_meet
            exact ⟨rfl, by rw [E.out]; simp; omega, rfl⟩
          · have e : B = false := by rw [← HB.out]; simp; omega
            have E := Lib.hid e
            clear e
            go_wp2_with fail
            go_meet
            exact ⟨rfl, by rw [E.out]; simp; omega, rfl⟩
      case rest =>
      obtain ⟨rfl, rfl, rfl⟩ := hcut
      go_upto_if 17 with fail
      go_cut [3, 8] from 8 to 33 (fun c k wx => c = .int .u32 X0 ∧ k = .int .i64 j ∧ w1 = wx)
      case first =>
        by_cases h : j < 28 ∨ 32 ≤ j
        · have hb1 : B = true := by rw [← HB.out]; exact decide_eq_true h
          subst hb1
          have e : (c0 ^^^ b.toNat) = X0 := by rw [← HX0.out, if_pos h]
          have E := Lib.hid e
          clear e h
          go_wp2_with fail
          go_meet
          exact ⟨by rw [hX.out, E.out], rfl, rfl⟩
        · have hb1 : B = false := by rw [← HB.out]; exact decide_eq_false h
          subst hb1
          have e : c0 = X0 := by rw [← HX0.out, if_neg h]
          have E := Lib.hid e
          clear e h
          go_wp2_with fail
          go_meet
          exact ⟨by rw [E.out], rfl, rfl⟩
      case rest =>
      obtain ⟨rfl, rfl, rfl⟩ := hcut
      have HCS2 : Hid (crcTo s.l (j + 1) = crcBits 8 X0) := by rw [HCS.out, HX0.out]; exact (rfl : crcBits 8 X0 = _)
      clear HCS HX0 hX hc hb HX
      go_wp2_with fail
      go_loopg [3, 6, 22] 8 (fun q c _ k wr => ∃ i, OnAt 8 k q i ∧ c = .int .u32 (crcBits i X0) ∧ w1 = wr)
      case atStart => exact ⟨0, ⟨Nat.zero_le _, rfl, rfl⟩, rfl, rfl⟩
      case round =>
        obtain ⟨i, ⟨hi, rfl, rfl⟩, rfl, rfl⟩ := hrel
        have hk := crcBits_lt hXl i
        have HKS : Hid (crcBits (i + 1) X0 = crcBit (crcBits i X0)) := (rfl : crcBits (i + 1) X0 = _)
        by_cases hin : i < 8
        · generalize crcBits i X0 = c1 at *
          by_cases hm : c1 % 2 = 1
          · have g1 : (bits BinOp.and IntKind.u32 (c1 : Int) 1 == 1) = true := by
              rw [show (1 : Int) = ((1 : Nat) : Int) from rfl, u32_and_nat c1 1 hk (by omega), nat_mask1]; simp; omega
            have g2 : Hid (bits BinOp.xor IntKind.u32 ((c1 : Int) / 2) 2197175160 = ((crcBit c1 : Nat) : Int)) := by
              have h := u32_xor_nat (c1 / 2) 2197175160 (by omega) (by omega)
              unfold crcBit; rw [if_pos hm]; exact h
            clear hm
            go_wp2_with fail
            go_roundg (8 - (i + 1))
            case measure => omega
            case rel => exact ⟨i + 1, ⟨by omega, by go_num, rfl⟩, by rw [g2.out, HKS.out], rfl⟩
          · have g1 : (bits BinOp.and IntKind.u32 (c1 : Int) 1 == 1) = false := by
              rw [show (1 : Int) = ((1 : Nat) : Int) from rfl, u32_and_nat c1 1 hk (by omega), nat_mask1]; simp; omega
            have g2 : Hid ((c1 : Int) / 2 = ((crcBit c1 : Nat) : Int)) := by
              unfold crcBit; rw [if_neg hm]; exact (rfl : ((c1 : Int) / 2) = _)
            clear hm
            go_wp2_with fail
            go_roundg (8 - (i + 1))
            case measure => omega
            case rel => exact ⟨i + 1, ⟨by omega, by go_num, rfl⟩, by rw [g2.out, HKS.out], rfl⟩
        · have hi8 : i = 8 := by omega
          subst hi8
          go_wp2_with fail
          go_roundg (512 - (j + 1))
          case measure => omega
          case rel => exact ⟨j + 1, ⟨by omega, by go_num, rfl⟩, by rw [HCS2.out], rfl⟩
    · clear hcs
      have hj5 : j = 512 := by omega
      subst hj5
      have hf : bits BinOp.xor IntKind.u32 4294967295 ((crcTo s.l 512 : Nat) : Int) = ((crcOf s.l : Nat) : Int) := by
        have h := u32_xor_nat 4294967295 (crcTo s.l 512) (by omega) hc
        unfold crcOf; rw [s.h]; exact h
      have HF := Lib.hid hf
      clear hf
      go_wp2_with fail
      go_ret
      exact ⟨by rw [← HF.out]; rfl, HT.out⟩
end Go.Proofs.YtkjgbhpnlgcinaaGreatDoor
