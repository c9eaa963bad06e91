/-
  A state of pages in memory: package page's has and set.
-/
import Derived.Test.YtkjgbhpnlgcinaaGreatDoorMW5
import Derived.Test.YtkjgbhpnlgcinaaGreatDoorMP1
import Derived.Test.YtkjgbhpnlgcinaaGreatDoorMW1
import Derived.Laws.BitsAllLaws
import Derived.Test.YtkjgbhpnlgcinaaGreatDoorMF2
import Derived.Test.YtkjgbhpnlgcinaaGreatDoorMMap2
namespace Go.Proofs.YtkjgbhpnlgcinaaGreatDoor
open Go.RowKit Go.Cib
def stA (s : StS) : Array Value := ((List.range 256).map fun i => Value.int .u64 (s.word i)).toArray ++ ((List.range 8).map fun i => Value.int .i64 (s.roots i)).toArray
theorem size_stA (s : StS) : (stA s).size = 264 := by simp [stA]
theorem stA_word (s : StS) {i : Nat} (h : i < 256) : (stA s)[i]? = some (.int .u64 (s.word i)) := by
  unfold stA
  rw [Array.getElem?_append_left (by simpa using h)]
  simp [h]
theorem stA_root (s : StS) {i : Nat} (h : i < 8) : (stA s)[256 + i]? = some (.int .i64 (s.roots i)) := by
  unfold stA
  rw [Array.getElem?_append_right (by simp)]
  simp [h]
/-- The cells from off on are a state's. -/
structure StIn (c : Array Value) (off : Nat) (s : StS) : Prop where
  size : off + 264 ≤ c.size
  get : ∀ j, j < 264 → c[off + j]? = (stA s)[j]?
theorem stIn_self (s : StS) : StIn (stA s) 0 s := ⟨by rw [size_stA]; omega, fun j _ => by rw [Nat.zero_add]⟩
theorem StIn.set {c : Array Value} {off : Nat} {s s' : StS} (h : StIn c off s) {k : Nat} (hk : k < 264) {v : Value} (h1 : (stA s')[k]? = some v) (h2 : ∀ j, j < 264 → j ≠ k → (stA s')[j]? = (stA s)[j]?) : StIn (c.setIfInBounds (off + k) v) off s' := by
  refine ⟨by simpa using h.size, fun j hj => ?_⟩
  rw [Array.getElem?_setIfInBounds]
  have := h.size
  by_cases e : j = k
  · subst e
    rw [if_pos rfl, if_pos (by omega), h1]
  · rw [if_neg (by omega), h2 j hj e, h.get j hj]
theorem StIn.other {c : Array Value} {off : Nat} {s : StS} (h : StIn c off s) {k : Nat} (hk : k < off ∨ off + 264 ≤ k) (v : Value) : StIn (c.setIfInBounds k v) off s :=
  ⟨by simpa using h.size, fun j hj => by rw [Array.getElem?_setIfInBounds, if_neg (by omega), h.get j hj]⟩
theorem stA_set_word (s : StS) (n : Nat) (tk : Bool) (hn : n < 16384) : (stA (s.set n tk))[n / 64]? = some (.int .u64 ((s.set n tk).word (n / 64))) ∧ ∀ j, j < 264 → j ≠ n / 64 → (stA (s.set n tk))[j]? = (stA s)[j]? := by
  refine ⟨stA_word _ (by omega), fun j hj hne => ?_⟩
  by_cases h : j < 256
  · rw [stA_word _ h, stA_word _ h, StS.set_word, if_neg hne]
  · obtain ⟨i, rfl⟩ : ∃ i, j = 256 + i := ⟨j - 256, by omega⟩
    rw [stA_root _ (by omega), stA_root _ (by omega)]
    rfl
theorem stA_set_root (s : StS) (i n : Nat) (hi : i < 8) : (stA (s.setRoot i n))[256 + i]? = some (.int .i64 n) ∧ ∀ j, j < 264 → j ≠ 256 + i → (stA (s.setRoot i n))[j]? = (stA s)[j]? := by
  refine ⟨by rw [stA_root _ hi]; simp [StS.setRoot], fun j hj hne => ?_⟩
  by_cases h : j < 256
  · rw [stA_word _ h, stA_word _ h]; rfl
  · obtain ⟨k, rfl⟩ : ∃ k, j = 256 + k := ⟨j - 256, by omega⟩
    rw [stA_root _ (by omega), stA_root _ (by omega)]
    show some (Value.int .i64 ((if k = i then n else s.roots k : Nat) : Int)) = _
    rw [if_neg (by omega)]
theorem word_has (s : StS) (n : Nat) : (bits .and .u64 ((s.word (n / 64) : Int) / 2 ^ (n % 64)) 1 == 1) = s.taken n := by
  have e : ((s.word (n / 64) : Int) / 2 ^ (n % 64)) = ((s.word (n / 64) / 2 ^ (n % 64) : Nat) : Int) := by simp
  rw [e, show (1 : Int) = ((1 : Nat) : Int) from rfl, u64_and_nat _ _ (Nat.lt_of_le_of_lt (Nat.div_le_self _ _) (s.word_lt _)) (by decide), Nat.and_one_is_mod, ← s.word_test n, Nat.testBit_eq_decide_div_mod_eq]
  have := Nat.mod_two_eq_zero_or_one (s.word (n / 64) / 2 ^ (n % 64))
  rcases this with h | h <;> simp [h]
theorem pow_lt64 (n : Nat) : 2 ^ (n % 64) < 18446744073709551616 := Nat.lt_of_lt_of_eq (Nat.pow_lt_pow_right (a := 2) (by decide) (Nat.mod_lt n (by decide : 0 < 64))) (by decide)
theorem wrap_pow (n : Nat) : IntKind.u64.wrap (2 ^ (n % 64)) = ((2 ^ (n % 64) : Nat) : Int) := by
  have h := pow_lt64 n
  rw [show ((2 : Int) ^ (n % 64)) = ((2 ^ (n % 64) : Nat) : Int) by simp, IntKind.wrap_u64]
  generalize 2 ^ (n % 64) = z at *
  omega
theorem word_clear (s : StS) (n : Nat) : bits .andNot .u64 (s.word (n / 64) : Int) (IntKind.u64.wrap (2 ^ (n % 64))) = ((s.set n false).word (n / 64) : Int) := by
  rw [wrap_pow, u64_andNot_nat _ _ (s.word_lt _) (pow_lt64 n)]
  congr 1
  rw [StS.set_word, if_pos rfl]
  apply Nat.eq_of_testBit_eq
  intro j
  rw [Nat.testBit_and, bitsN_test, show 18446744073709551615 - 2 ^ (n % 64) = 2 ^ 64 - (2 ^ (n % 64) + 1) by omega, Nat.testBit_two_pow_sub_succ (Nat.lt_of_lt_of_eq (pow_lt64 n) (by decide)), Nat.testBit_two_pow]
  unfold StS.word
  rw [bitsN_test]
  by_cases h : j < 64
  · by_cases e : j = n % 64
    · simp [e, Nat.mod_lt n (by decide : 64 > 0)]
    · simp [h, e, Ne.symm e]
  · simp [h]
theorem word_add (s : StS) (n : Nat) : bits .or .u64 ((s.set n false).word (n / 64) : Int) (IntKind.u64.wrap (2 ^ (n % 64))) = ((s.set n true).word (n / 64) : Int) := by
  rw [wrap_pow, u64_or_nat _ _ (StS.word_lt _ _) (pow_lt64 n)]
  congr 1
  rw [StS.set_word, if_pos rfl, StS.set_word, if_pos rfl]
  apply Nat.eq_of_testBit_eq
  intro j
  rw [Nat.testBit_or, bitsN_test, bitsN_test, Nat.testBit_two_pow]
  by_cases h : j < 64
  · by_cases e : j = n % 64
    · simp [e, Nat.mod_lt n (by decide : 64 > 0)]
    · simp [h, e, Ne.symm e]
  · have : ¬ n % 64 = j := by omega
    simp [h, this]
theorem has_any {w : World} {b off : Nat} {c : Array Value} {e : TypeId} {fr : Nat × Nat} {s : StS} (hb : w.heap[b]? = some (.cells c e fr)) (hc : StIn c off s) (n : Nat) (hn : n < 16384) :
    Calls Tryz.prog 60 #[.pointer (some ⟨b, off, none⟩), .int .i64 n] w fun e w' => e = .returned (.bool (s.taken n)) ∧ w = w' := by
  have c0 : w.cell? ⟨b, off + n / 64, none⟩ = some (.int .u64 (s.word (n / 64))) := by
    rw [cell_of_row w b _ _ _ _ hb, hc.get _ (by omega), stA_word _ (by omega)]
  clear hb hc
  go_enter Tryz.func60, Tryz.ntmps60
  go_wp2_with fail
  go_ret
  refine ⟨?_, rfl⟩
  rw [word_has]
  rfl
theorem set_any {w : World} {b off : Nat} {c : Array Value} {e : TypeId} {s : StS} (hb : w.heap[b]? = some (.cells c e)) (hc : StIn c off s) (n : Nat) (hn : n < 16384) (tk : Bool) :
    Calls Tryz.prog 51 #[.pointer (some ⟨b, off, none⟩), .int .i64 n, .bool tk] w fun e' w' => e' = .returned (.tuple #[]) ∧ Tch [b] w w' ∧ w'.heap[b]? = some (.cells (c.setIfInBounds (off + n / 64) (.int .u64 ((s.set n tk).word (n / 64)))) e) := by
  have c0 : w.cell? ⟨b, off + n / 64, none⟩ = some (.int .u64 (s.word (n / 64))) := by
    rw [cell_of_row w b _ _ _ _ hb, hc.get _ (by omega), stA_word _ (by omega)]
  have f0 := frozen_of_row w b (off + n / 64) _ _ hb
  have hsz : off + n / 64 < c.size := by have := hc.size; omega
  clear hc
  go_enter Tryz.func51, Tryz.ntmps51
  go_upto_region 0 with fail
  (refine wp_region_walk (C := fun w' => ∃ n, w' = World.drewN w n) 14 (by kernel_rfl) (by kernel_rfl) ⟨1, rfl⟩ ?_; simp only [List.take_succ_cons, List.take_zero, List.drop_succ_cons, List.drop_zero]; (repeat (first | fail | go_big_quiet_step (fail))); refine wpQuiet_nil ?_; intro _ hw'; obtain ⟨nq, hw''⟩ := hw'; subst hw'')
  have c1 : (w.drewN nq).cell? ⟨b, off + n / 64, none⟩ = some (.int .u64 (s.word (n / 64))) := c0
  have f1 : (w.drewN nq).frozen? ⟨b, off + n / 64, none⟩ = false := f0
  go_upto_region 1 with fail
  rw [word_clear]
  have hz : off + n / 64 < c.size := hsz
  have h1 : ((w.drewN nq).setCell ⟨b, off + n / 64, none⟩ (.int .u64 ((s.set n false).word (n / 64)))).heap[b]? = some (.cells (c.setIfInBounds (off + n / 64) (.int .u64 ((s.set n false).word (n / 64)))) e) := heap_setCell_cells (w := w.drewN nq) hb _ _
  have t1 : Tch [b] w ((w.drewN nq).setCell ⟨b, off + n / 64, none⟩ (.int .u64 ((s.set n false).word (n / 64)))) := ((tch_drewN w nq).mono (by simp)).setCell (.inl (by simp)) _
  generalize (w.drewN nq).setCell ⟨b, off + n / 64, none⟩ (.int .u64 ((s.set n false).word (n / 64))) = w1 at *
  clear c1 f1 c0 f0
  have c0 := cell_of_row w1 b (off + n / 64) _ _ _ h1
  rw [Array.getElem?_setIfInBounds, if_pos rfl, if_pos hz] at c0
  have f0 := frozen_of_row w1 b (off + n / 64) _ _ h1
  cases tk with
  | false =>
    go_wp2_with fail
    go_end0
    exact ⟨rfl, t1, h1⟩
  | true =>
    go_upto_region 2 with fail
    clear nq
    (refine wp_region_walk (C := fun w' => ∃ n, w' = World.drewN w1 n) 14 (by kernel_rfl) (by kernel_rfl) ⟨1, rfl⟩ ?_; simp only [List.take_succ_cons, List.take_zero, List.drop_succ_cons, List.drop_zero]; (repeat (first | fail | go_big_quiet_step (fail))); refine wpQuiet_nil ?_; intro _ hw'; obtain ⟨nq, hw''⟩ := hw'; subst hw'')
    have c2 : (w1.drewN nq).cell? ⟨b, off + n / 64, none⟩ = some (.int .u64 ((s.set n false).word (n / 64))) := c0
    have f2 : (w1.drewN nq).frozen? ⟨b, off + n / 64, none⟩ = false := f0
    go_wp2_with fail
    go_end0
    rw [word_add]
    refine ⟨rfl, (t1.trans ((tch_drewN w1 nq).mono (by simp))).setCell (.inl (by simp)) _, ?_⟩
    have := heap_setCell_cells (w := w1.drewN nq) h1 (off + n / 64) (.int .u64 ((s.set n true).word (n / 64)))
    rw [Array.setIfInBounds_setIfInBounds] at this
    exact this
end Go.Proofs.YtkjgbhpnlgcinaaGreatDoor
/-
  Package math/bits: OnesCount64, TrailingZeros64.
-/
namespace Go.Proofs.YtkjgbhpnlgcinaaGreatDoor
open Go.RowKit Go.Cib
theorem u64_shr (x k : Nat) : ((x : Int) / (k : Int)) = ((x / k : Nat) : Int) := by simp
theorem and_step (x s m : Nat) (hx : x < 18446744073709551616) (hm : m < 18446744073709551616) : bits .and .u64 ((x : Int) / ((2 ^ s : Nat) : Int)) (m : Int) = (((x >>> s) &&& m : Nat) : Int) := by
  rw [u64_shr, u64_and_nat _ _ (Nat.lt_of_le_of_lt (Nat.div_le_self _ _) hx) hm, Nat.shiftRight_eq_div_pow]
theorem wrap_nat (x : Nat) (hx : x < 18446744073709551616) : IntKind.u64.wrap (x : Int) = (x : Int) := by
  rw [IntKind.wrap_u64]; omega
theorem ones_lt {x : Nat} (_hx : x < 18446744073709551616) : ones1 x < 18446744073709551616 ∧ ones2 (ones1 x) < 18446744073709551616 ∧ (ones2 (ones1 x) >>> 4) + ones2 (ones1 x) < 18446744073709551616 := by
  have a1 : ones1 x < 18446744073709551616 := by
    unfold ones1
    have h1 : (x >>> 1) &&& 6148914691236517205 ≤ 6148914691236517205 := Nat.and_le_right
    have h2 : x &&& 6148914691236517205 ≤ 6148914691236517205 := Nat.and_le_right
    omega
  have a2 : ones2 (ones1 x) ≤ 7378697629483820646 := by
    unfold ones2
    have h1 : (ones1 x >>> 2) &&& 3689348814741910323 ≤ 3689348814741910323 := Nat.and_le_right
    have h2 : ones1 x &&& 3689348814741910323 ≤ 3689348814741910323 := Nat.and_le_right
    omega
  refine ⟨a1, by omega, ?_⟩
  rw [Nat.shiftRight_eq_div_pow]
  omega
theorem wrap64_nat (x : Nat) (hx : x < 9223372036854775808) : wrap64 (x : Int) = (x : Int) := by unfold wrap64; omega
theorem i64_and127 (x : Nat) (hx : x < 9223372036854775808) : bits .and .i64 (x : Int) 127 = ((x % 128 : Nat) : Int) := by
  have h2 : x &&& 127 = x % 128 := Nat.and_two_pow_sub_one_eq_mod x 7
  show IntKind.i64.wrap ((BitVec.ofInt 64 (x : Int) &&& BitVec.ofInt 64 ((127 : Nat) : Int)).toNat : Int) = _
  rw [BitVec.toNat_and, ofInt_u64 x (by omega), ofInt_u64 127 (by decide), IntKind.wrap_i64, h2]
  omega
theorem ones64_any (x : Nat) (hx : x < 18446744073709551616) (w : World) : Calls Tryz.prog 49 #[.int .u64 x] w fun e w' => e = .returned (.int .i64 (cnt x.testBit 64)) ∧ w = w' := by
  obtain ⟨b1, b2, b3⟩ := ones_lt hx
  obtain ⟨x1, hx1⟩ : ∃ x1, x1 = ones1 x := ⟨_, rfl⟩
  obtain ⟨x2, hx2⟩ : ∃ x2, x2 = ones2 x1 := ⟨_, rfl⟩
  obtain ⟨y, hy⟩ : ∃ y, y = ones3 x2 := ⟨_, rfl⟩
  obtain ⟨y1, hy1⟩ : ∃ y1, y1 = y + y / 256 := ⟨_, rfl⟩
  obtain ⟨y2, hy2⟩ : ∃ y2, y2 = y1 + y1 / 65536 := ⟨_, rfl⟩
  obtain ⟨y3, hy3⟩ : ∃ y3, y3 = y2 + y2 / 4294967296 := ⟨_, rfl⟩
  obtain ⟨r1, r2, r3, r4⟩ := ones_count hx (by rw [hy, hx2, hx1]) hy1 hy2
  rw [← hx1] at b1 b2 b3
  rw [← hx2] at b2 b3
  have s1 : IntKind.u64.wrap (bits .and .u64 ((x : Int) / 2) 6148914691236517205 + bits .and .u64 (x : Int) 6148914691236517205) = (x1 : Int) := by
    have e1 := and_step x 1 6148914691236517205 hx (by decide)
    have e2 := u64_and_nat x 6148914691236517205 hx (by decide)
    rw [show ((x : Int) / 2) = (x : Int) / ((2 ^ 1 : Nat) : Int) from rfl, show (6148914691236517205 : Int) = ((6148914691236517205 : Nat) : Int) from rfl, e1, e2, ← Int.natCast_add, hx1]
    rw [hx1] at b1
    exact wrap_nat _ b1
  have s2 : IntKind.u64.wrap (bits .and .u64 ((x1 : Int) / 4) 3689348814741910323 + bits .and .u64 (x1 : Int) 3689348814741910323) = (x2 : Int) := by
    have e1 := and_step x1 2 3689348814741910323 b1 (by decide)
    have e2 := u64_and_nat x1 3689348814741910323 b1 (by decide)
    rw [show ((x1 : Int) / 4) = (x1 : Int) / ((2 ^ 2 : Nat) : Int) from rfl, show (3689348814741910323 : Int) = ((3689348814741910323 : Nat) : Int) from rfl, e1, e2, ← Int.natCast_add, hx2]
    rw [hx2] at b2
    exact wrap_nat _ b2
  have s3 : bits .and .u64 (IntKind.u64.wrap ((x2 : Int) / 16 + (x2 : Int))) 1085102592571150095 = (y : Int) := by
    rw [show ((x2 : Int) / 16) = ((x2 / 16 : Nat) : Int) from u64_shr x2 16, ← Int.natCast_add]
    rw [Nat.shiftRight_eq_div_pow] at b3
    rw [wrap_nat _ b3, show (1085102592571150095 : Int) = ((1085102592571150095 : Nat) : Int) from rfl, u64_and_nat _ _ b3 (by decide), hy]
    unfold ones3
    rw [Nat.shiftRight_eq_div_pow]
  have s4 : IntKind.u64.wrap ((y : Int) + (y : Int) / 256) = (y1 : Int) := by
    rw [show ((y : Int) / 256) = ((y / 256 : Nat) : Int) from u64_shr y 256, ← Int.natCast_add, ← hy1]
    exact wrap_nat _ r3
  have s5 : IntKind.u64.wrap ((y1 : Int) + (y1 : Int) / 65536) = (y2 : Int) := by
    rw [show ((y1 : Int) / 65536) = ((y1 / 65536 : Nat) : Int) from u64_shr y1 65536, ← Int.natCast_add, ← hy2]
    exact wrap_nat _ r4
  have s6 : IntKind.u64.wrap ((y2 : Int) + (y2 : Int) / 4294967296) = (y3 : Int) := by
    rw [show ((y2 : Int) / 4294967296) = ((y2 / 4294967296 : Nat) : Int) from u64_shr y2 4294967296, ← Int.natCast_add, ← hy3]
    exact wrap_nat _ (hy3 ▸ Nat.lt_of_lt_of_le r2 (by decide))
  rw [← hy3] at r1 r2
  have s8 := wrap64_nat y3 r2
  obtain ⟨y4, hy4⟩ : ∃ y4, y4 = y3 % 128 := ⟨_, rfl⟩
  have s7 := i64_and127 y3 r2
  rw [← hy4] at s7 r1
  have HR := Lib.hid r1
  clear hx1 hx2 hy hy1 hy2 hy3 r1 b3 b1 b2 r2 r3 r4 hy4
  go_enter Tryz.func49, Tryz.ntmps49
  go_wp2_with fail
  go_ret
  refine ⟨?_, rfl⟩
  rw [← HR.out]
  rfl
/-- The table of package math/bits. -/
def deBruijn : List Nat := [0, 1, 56, 2, 57, 49, 28, 3, 61, 58, 42, 50, 38, 29, 17, 4, 62, 47, 59, 36, 45, 43, 51, 22, 53, 39, 33, 30, 24, 18, 12, 5, 63, 55, 48, 27, 60, 41, 37, 16, 46, 35, 44, 21, 52, 32, 23, 11, 54, 26, 40, 15, 34, 20, 31, 10, 25, 14, 19, 9, 13, 8, 7, 6]
def Tab (w : World) : Prop := ∀ i x, deBruijn[i]? = some x → w.cell? ⟨0, i, none⟩ = some (.int .u8 (x : Nat))
theorem tab_at : ∀ t < 64, deBruijn[2 ^ t * 285870213051353865 % 18446744073709551616 / 288230376151711744]? = some t := by decide +kernel
theorem tz64_any (v t : Nat) (hv : v < 18446744073709551616) (h0 : ∀ j, j < t → v.testBit j = false) (h1 : v.testBit t = true) (w : World) (ht : Tab w) : Calls Tryz.prog 50 #[.int .u64 v] w fun e w' => e = .returned (.int .i64 t) ∧ w = w' := by
  have hv0 : v ≠ 0 := by rintro rfl; simp at h1
  have hv1 : ¬ (v : Int) = 0 := by omega
  have ht64 : t < 64 := by
    rcases Nat.lt_or_ge t 64 with h | h
    · exact h
    · rw [Nat.testBit_lt_two_pow (Nat.lt_of_lt_of_le hv (Nat.pow_le_pow_right (n := 2) (by decide) h))] at h1
      cases h1
  obtain ⟨z, hz⟩ : ∃ z, z = 2 ^ t := ⟨_, rfl⟩
  obtain ⟨m, hm⟩ : ∃ m, m = z * 285870213051353865 % 18446744073709551616 := ⟨_, rfl⟩
  obtain ⟨i, hi⟩ : ∃ i, i = m / 288230376151711744 := ⟨_, rfl⟩
  have hT := tab_at t ht64
  rw [← hz, ← hm, ← hi] at hT
  have hi64 : i < 64 := by omega
  have s1 : bits .and .u64 (v : Int) (IntKind.u64.wrap (-(v : Int))) = (z : Int) := by
    have e : IntKind.u64.wrap (-(v : Int)) = ((18446744073709551616 - v : Nat) : Int) := by rw [IntKind.wrap_u64]; omega
    rw [e, u64_and_nat _ _ hv (by omega), low_bit hv h0 h1, hz]
  have s2 : IntKind.u64.wrap ((z : Int) * 285870213051353865) = (m : Int) := by
    rw [IntKind.wrap_u64]; omega
  have s3 : (m : Int) / 288230376151711744 = (i : Int) := by omega
  have cT := ht i t hT
  clear ht hT hz hm hi h0 h1
  go_enter Tryz.func50, Tryz.ntmps50
  go_wp2_with fail
  go_ret
  exact ⟨rfl, rfl⟩
end Go.Proofs.YtkjgbhpnlgcinaaGreatDoor
/-
  The pages that a state is written as: package page's page.
-/
namespace Go.Cib
open Go Go.RowKit
/-- T is an array of n numbers. -/
structure NumsT (P : Program) (T : TypeId) (n : Nat) (k : IntKind) : Prop where
  und : ∃ E i, P.underlying T = some (.array n E) ∧ P.underlying E = some (.int k) ∧ P.info? E = some i ∧ i.size = 1
  size : ∃ i, P.info? T = some i ∧ i.size = n
section
variable {P : Program} {T : TypeId} {n : Nat} {k : IntKind} {ops : Array Oper} {rest : List Oper} {a : Act} {w : World} {Q : Exit → Act → World → Prop} {dst : Option Tmp} {ty : TypeId} {pos : String} {af : Array Edge} {x y : Operand} {gd : Option (Nat × Bool)}
theorem NumsT.of {E : TypeId} (h1 : P.underlying T = some (.array n E)) (h2 : P.underlying E = some (.int k)) (h3 : (P.info? E).map (·.size) = some 1) (h4 : (P.info? T).map (·.size) = some n) : NumsT P T n k := by
  obtain ⟨i, hi, hi2⟩ := Option.map_eq_some_iff.1 h3
  obtain ⟨j, hj, hj2⟩ := Option.map_eq_some_iff.1 h4
  exact ⟨⟨E, i, h1, h2, hi, hi2⟩, ⟨j, hj, hj2⟩⟩
theorem NumsT.agg (h : NumsT P T n k) : AggT P T n := ⟨by obtain ⟨E, i, h1, _⟩ := h.und; exact ⟨_, h1, rfl⟩, h.size⟩
theorem exec_index_num (hT : NumsT P T n k) {cs : Array Value} {i : Nat} {v : Value} (hx : a.eval x = .agg cs) (hy : a.eval y = .int .i64 i) (hi : i < n) (hv : cs[i]? = some v) :
    (execOp a.eval ⟨dst, .index T x y, ty, pos, af, gd⟩).run P w = .ok (.value v) w := by
  obtain ⟨E, inf, h1, h2, h3, h4⟩ := hT.und
  have hagg : (isAgg E).run P w = .ok false w := by unfold isAgg; rw [Sem.run_bind, run_underlying h2 w]; rfl
  have hp : (part E cs i).run P w = .ok v w := by
    unfold part
    rw [Sem.run_bind, hagg]
    simp [hv]
  unfold execOp
  simp only [hx, hy]
  simp [Instr.index, asIntOf, Sem.run_bind, run_underlying h1, sizeOf, typeInfo, h3, h4, hi, hp]
theorem wc_index_num (hT : NumsT P T n k) {cs : Array Value} {i : Nat} {v : Value} (hi : i < n) (hv : cs[i]? = some v) (hx : a.eval x = .agg cs) (hy : a.eval y = .int .i64 i)
    (h : wpList P ops Q rest (a.put dst v) w) : wpList P ops Q (⟨dst, .index T x y, ty, pos, af, none⟩ :: rest) a w :=
  wc_value rfl (exec_index_num hT hx hy hi hv) h
theorem wc_load_part (hT : AggT P T n) {b off : Nat} {c : Array Value} {e : TypeId} {fr : Nat × Nat} {v : Array Value} (hb : w.heap[b]? = some (.cells c e fr)) (hin : off + n ≤ c.size) (hv : c.extract off (off + n) = v) (hx : a.eval x = .pointer (some ⟨b, off, none⟩))
    (h : wpList P ops Q rest (a.put dst (.agg v)) w) : wpList P ops Q (⟨dst, .load T x, ty, pos, af, none⟩ :: rest) a w := by
  subst hv
  exact wc_value rfl (exec_load_agg hT rfl hx hb hin) h
end
/-- The bits below j. -/
theorem bitPage_step (s : StS) (j : Nat) (hj : j < 3840) : s.bitPage (j + 1) = if s.taken j = true then ⟨(s.bitPage j).l.set (j / 8) (UInt8.ofNat (((s.bitPage j).l.getD (j / 8) 0).toNat ||| 2 ^ (j % 8))), by rw [List.length_set]; exact (s.bitPage j).h⟩ else s.bitPage j := by
  apply StS.bitPage_ext
  intro n hn
  rw [StS.bitOf_bitPage _ _ _ hn]
  by_cases ht : s.taken j = true
  · rw [if_pos ht]
    have hlen : j / 8 < (s.bitPage j).l.length := by rw [(s.bitPage j).h]; omega
    have h8 : ((s.bitPage j).l.getD (j / 8) 0).toNat ||| 2 ^ (j % 8) < 256 := Nat.or_lt_two_pow (n := 8) (UInt8.toNat_lt _) (Nat.pow_lt_pow_right (by decide) (Nat.mod_lt _ (by decide)))
    unfold StS.bitOf
    show _ = (((s.bitPage j).l.set (j / 8) _).getD (n / 8) 0).toNat.testBit (n % 8)
    rw [List.getD_eq_getElem?_getD, List.getElem?_set]
    by_cases e : j / 8 = n / 8
    · rw [if_pos e, if_pos (by omega), Option.getD_some, toNat_ofNat8, Nat.mod_eq_of_lt h8, Nat.testBit_or, Nat.testBit_two_pow]
      have hb := StS.bitOf_bitPage s j n hn
      unfold StS.bitOf at hb
      rw [e, hb]
      by_cases en : j = n
      · subst en; simp [ht]
      · have e1 : decide (n < j + 1) = decide (n < j) := by rw [decide_eq_decide]; omega
        have e2 : decide (j % 8 = n % 8) = false := by rw [decide_eq_false_iff_not]; omega
        rw [e1, e2, Bool.or_false]
    · rw [if_neg e, ← List.getD_eq_getElem?_getD]
      have hb := StS.bitOf_bitPage s j n hn
      unfold StS.bitOf at hb
      rw [hb]
      have e1 : decide (n < j + 1) = decide (n < j) := by rw [decide_eq_decide]; omega
      rw [e1]
  · rw [if_neg ht, StS.bitOf_bitPage _ _ _ hn]
    by_cases en : n = j
    · subst en
      simp at ht
      simp [ht]
    · have e1 : decide (n < j + 1) = decide (n < j) := by rw [decide_eq_decide]; omega
      rw [e1]
theorem bitPage_zero (s : StS) : s.bitPage 0 = Arr.zero := by
  apply StS.bitPage_ext
  intro n hn
  rw [StS.bitOf_bitPage _ _ _ hn]
  unfold StS.bitOf
  show _ = ((List.replicate 480 (0 : UInt8)).getD (n / 8) 0).toNat.testBit (n % 8)
  rw [List.getD_eq_getElem?_getD, List.getElem?_replicate]
  split <;> simp
end Go.Cib
namespace Go.Proofs.YtkjgbhpnlgcinaaGreatDoor
open Go.RowKit Go.Cib
theorem rootsT : NumsT Tryz.prog 41 8 .i64 := .of (E := 3) (by kernel_rfl) (by kernel_rfl) (by kernel_rfl) (by kernel_rfl)
theorem wordsT : NumsT Tryz.prog 99 256 .u64 := .of (E := 98) (by kernel_rfl) (by kernel_rfl) (by kernel_rfl) (by kernel_rfl)
def rootsA (s : StS) : Array Value := ((List.range 8).map fun i => Value.int .i64 (s.roots i)).toArray
def wordsA (s : StS) : Array Value := ((List.range 256).map fun i => Value.int .u64 (s.word i)).toArray
theorem rootsA_get (s : StS) {i : Nat} (h : i < 8) : (rootsA s)[i]? = some (.int .i64 (s.roots i)) := by simp [rootsA, h]
theorem wordsA_get (s : StS) {i : Nat} (h : i < 256) : (wordsA s)[i]? = some (.int .u64 (s.word i)) := by simp [wordsA, h]
theorem size_rootsA (s : StS) : (rootsA s).size = 8 := by simp [rootsA]
theorem size_wordsA (s : StS) : (wordsA s).size = 256 := by simp [wordsA]
theorem extract_eq {c d : Array Value} {off n : Nat} (h : off + n ≤ c.size) (hd : d.size = n) (hg : ∀ j, j < n → c[off + j]? = d[j]?) : c.extract off (off + n) = d := by
  apply Array.ext_getElem?
  intro j
  rw [Array.getElem?_extract]
  by_cases hj : j < n
  · rw [if_pos (by omega), hg j hj]
  · rw [if_neg (by omega), Array.getElem?_eq_none (by omega)]
theorem StIn.roots {c : Array Value} {off : Nat} {s : StS} (h : StIn c off s) : c.extract (off + 256) (off + 256 + 8) = rootsA s := by
  have := h.size
  exact extract_eq (by omega) (size_rootsA s) fun j hj => by
    rw [Nat.add_assoc, h.get _ (by omega), stA_root _ hj, rootsA_get s hj]
theorem StIn.words {c : Array Value} {off : Nat} {s : StS} (h : StIn c off s) : c.extract off (off + 256) = wordsA s := by
  have := h.size
  exact extract_eq (by omega) (size_wordsA s) fun j hj => by
    rw [h.get _ (by omega), stA_word _ hj, wordsA_get s hj]
theorem StIn.all {c : Array Value} {off : Nat} {s : StS} (h : StIn c off s) : c.extract off (off + 264) = stA s := extract_eq h.size (size_stA s) h.get
end Go.Proofs.YtkjgbhpnlgcinaaGreatDoor
/-
  Package page's page: the root page, the page of bits.
-/
namespace Go.Proofs.YtkjgbhpnlgcinaaGreatDoor
open Go.RowKit Go.Cib
theorem be4_page : be 4 1885431653 = [112, 97, 103, 101] := by decide
set_option maxRecDepth 20000 in
set_option maxHeartbeats 2000000 in
theorem page0_any {w : World} {b off : Nat} {c : Array Value} {e : TypeId} {fr : Nat × Nat} {s : StS} (hb : w.heap[b]? = some (.cells c e fr)) (hc : StIn c off s) (hr : ∀ i, s.roots i < 4294967296) (pages : Nat) :
    Calls Tryz.prog 61 #[.pointer (some ⟨b, off, none⟩), .int .i64 0, .int .i64 pages] w fun e w' => e = .returned (.agg (secA s.rootPage)) ∧ Tch [] w w' := by
  obtain ⟨w1, hw1⟩ : ∃ w1, (w.alloc (.cells (secA (Arr.zero : Page)) 54)).alloc (.cells (secA (Arr.zero : Page)) 54) = w1 := ⟨_, rfl⟩
  have HW1 := Lib.hid hw1
  have HB := Lib.hid hb
  have HC := Lib.hid hc
  have HR := Lib.hid hr
  clear hw1 hb hc hr
  go_enter Tryz.func61, Tryz.ntmps61
  go_upto_region 2 with ((with_reducible refine wc_alloc_arr pageT ?_); go_frame; (try simp only [World.size_alloc]))
  rw [HW1.out]
  have hR : w1.heap[w.heap.size]? = some (.cells (secA (Arr.zero : Page)) 54) := by
    rw [← HW1.out, heap_alloc, if_neg (by simp), heap_alloc, if_pos rfl]
  have hP : w1.heap[w.heap.size + 1]? = some (.cells (secA (Arr.zero : Page)) 54) := by
    rw [← HW1.out, heap_alloc, if_pos (by simp)]
  have ht : Tch [] w w1 := by rw [← HW1.out]; exact ((Tch.refl _ _).alloc _).alloc _
  have R1 := Lib.hid hR
  have P1 := Lib.hid hP
  have T1 := Lib.hid ht
  clear hR hP ht HW1
  have HG1 : Hid ((w1.alloc (.cells #[.int .u8 112, .int .u8 97, .int .u8 103, .int .u8 101] 5)).heap[w1.heap.size]? = some (.cells (bytesA [112, 97, 103, 101]) 5)) := heap_alloc_new w1 _
  go_upto_region 4 with ((with_reducible apply wc_convert_bytes byteT uByte HG1.out); exact rfl; intro w2 fr2 ht2 hg2; go_frame; have T12 := Lib.hid (tch_own ((Tch.refl [] w1).alloc (.cells #[.int .u8 112, .int .u8 97, .int .u8 103, .int .u8 101] 5)) ht2 (by simp)); have V2 := Lib.hid (bytesAt_fr hg2); clear ht2 hg2)
  have V2 : Hid (BytesV w2 (.slice (some ⟨w1.heap.size, 0, none⟩) 4 4) (be 4 1885431653)) := by
    refine ⟨some ⟨w1.heap.size, 0, none⟩, 4, rfl, ?_⟩
    rw [be4_page]
    exact V2.out
  have B2 := Lib.hid ((T1.out.trans T12.out).heap HB.out (by simp))
  have R2 := Lib.hid (T12.out.heap R1.out (by simp))
  have P2 := Lib.hid (T12.out.heap P1.out (by simp))
  have T2 := Lib.hid (T1.out.trans T12.out)
  have HE := Lib.hid (HC.out.roots)
  have HSZ : Hid (off + 256 + 8 ≤ c.size) := HC.out.size
  go_wp2_with ((with_reducible refine wc_load_part rootsT.agg B2.out HSZ.out HE.out ?_ ?_); exact rfl; go_frame)
  clear HG1 R1 P1 T1 HE HSZ
  go_loopg [8, 10, 20] 8 (fun q v _ i wr => ∃ j, OnAt 8 i q j ∧ BytesV wr v (((1885431653 :: s.rootList).take (j + 1)).flatMap fun n => be 4 n) ∧ Tch [] w2 wr)
  case atStart => exact ⟨0, ⟨Nat.zero_le _, rfl, rfl⟩, V2.out, Tch.refl _ _⟩
  case round =>
    obtain ⟨j, ⟨hj, rfl, rfl⟩, ⟨va, vc, rfl, hv⟩, hT⟩ := hrel
    have HV := Lib.hid hv
    have HT := Lib.hid hT
    have hll : (1885431653 :: s.rootList).length = 9 := by simp [StS.rootList]
    have hlen : (((1885431653 :: s.rootList).take (j + 1)).flatMap fun n => be 4 n).length = 4 * (j + 1) := by
      rw [length_nums, List.length_take, hll]; omega
    have HLEN := Lib.hid hlen
    clear hv hT
    by_cases hjm : j < 8
    · have hx : (1885431653 :: s.rootList)[j + 1]? = some (s.roots j) := by simp [StS.rootList, hjm]
      have hg := rootsA_get s hjm
      have hnb := HR.out j
      generalize hn : s.roots j = n at *
      have HX := Lib.hid hx
      have HGT := Lib.hid hg
      have hu : IntKind.u32.wrap (n : Int) = (n : Int) := by simp [IntKind.wrap, IntKind.bits, IntKind.signed]; omega
      generalize hq : (((1885431653 :: s.rootList).take (j + 1)).flatMap fun n => be 4 n) = q at *
      have HQ := Lib.hid hq
      clear hq hn
      have CP := Lib.hid (put32_any (cap := vc) HV.out (by rw [hlen]; omega) n hnb)
      clear hlen hx hg hll
      go_wp2_with (first | ((with_reducible refine wc_index_num rootsT hjm HGT.out ?_ ?_ ?_); exact rfl; exact rfl; go_frame) | (go_at_call 112; refine CP.out.mono ?_; rintro e w5 ⟨v, rfl, q1, q2⟩; have V5 := Lib.hid q1; have T5 := Lib.hid (HT.out.trans q2); clear q1 q2))
      go_roundg (8 - (j + 1))
      case measure => omega
      case rel =>
        refine ⟨j + 1, ⟨by omega, by go_num, rfl⟩, ?_, T5.out⟩
        have hx : (1885431653 :: s.rootList)[j + 1]? = some n := HX.out
        rw [List.take_add_one, hx, List.flatMap_append, HQ.out]
        have := V5.out
        simpa using this
    · have hfull : (1885431653 :: s.rootList).take (j + 1) = 1885431653 :: s.rootList := List.take_of_length_le (by rw [hll]; omega)
      rw [hfull] at HV HLEN ⊢
      have HF := Lib.hid hfull
      clear hlen hfull hll
      generalize hq : ((1885431653 :: s.rootList).flatMap fun n => be 4 n) = q at *
      have HQ := Lib.hid hq
      have hql : q.length ≤ 4000 := by have := HLEN.out; omega
      have hj8 : j = 8 := by omega
      subst hj8
      have R3 := Lib.hid (HT.out.heap R2.out (by simp))
      have P3 := Lib.hid (HT.out.heap P2.out (by simp))
      have hvq : q.length = 36 := HLEN.out
      rw [hvq]
      clear hq
      have COPY : Hid (∀ {ops : Array Oper} {rest : List Oper} {a2 : Act} {Q : Exit → Act → World → Prop} {dst : Option Tmp} {ty : TypeId} {pos : String} {af : Array Edge} {x y : Operand}, a2.eval x = .slice (some ⟨w.heap.size + 1, 0, none⟩) 480 480 → a2.eval y = .slice va 36 vc →
          (∀ n w', w'.heap[w.heap.size + 1]? = some (.cells (secA s.rootPage) 54) → Tch [w.heap.size + 1] wr w' → wpList Tryz.prog ops Q rest (a2.put dst (goInt n)) w') → wpList Tryz.prog ops Q (⟨dst, .call { callee := .builtin .copy, args := #[x, y], argTypes := #[160, 160] }, ty, pos, af, none⟩ :: rest) a2 wr) := by
        intro ops rest a2 Q dst ty pos af x y hx hy h
        refine wc_copy_bytes (l := q) (dLen := 480) byteT P3.out (by rw [(Arr.zero : Page).h]; omega) HV.out hx (by rw [hvq]; exact hy) ?_
        refine h _ _ ?_ ((Tch.refl [w.heap.size + 1] _).setRow (.inl (by simp)) _)
        rw [setRow_heap _ _ _ _ _ _ P3.out]
        have e : (Arr.zero : Page).l.take 0 ++ q.take 480 ++ (Arr.zero : Page).l.drop (0 + Nat.min q.length 480) = s.rootPage.l := by
          unfold StS.rootPage numsPage
          rw [HQ.out]
          show [] ++ q.take 480 ++ (List.replicate 480 (0 : UInt8)).drop (0 + Nat.min q.length 480) = q.take 480 ++ List.replicate (480 - q.length) 0
          rw [List.nil_append, List.drop_replicate, Nat.zero_add]
          congr 2
          show 480 - min q.length 480 = 480 - q.length
          omega
        rw [e]
        rfl
      have hBQ : w.heap.size + 1 ≠ w.heap.size := by omega
      clear HQ HLEN hvq hql
      go_wp2_with (first | ((with_reducible apply COPY.out); exact rfl; exact rfl; intro nn w8 hg8 ht8; go_frame; have P8 := Lib.hid hg8; have R8 := Lib.hid (ht8.heap R3.out (by simp)); have T8 := Lib.hid (HT.out.mono (S' := [w.heap.size + 1]) (by simp) |>.trans ht8); clear hg8 ht8) | ((with_reducible apply wc_load_var pageT P8.out); exact rfl; go_frame) | ((with_reducible apply wc_store_var pageT R8.out); exact rfl; exact rfl; go_frame))
      refine bodyPost_ret (res_cell pageT.agg rfl _ rfl (setRow_heap _ _ _ _ _ _ R8.out) (size_secA _)) rfl ?_
      exact ⟨rfl, (tch_own T2.out T8.out (by simp)).setRow (.inr (by omega)) _⟩
set_option maxRecDepth 20000 in
set_option maxHeartbeats 2000000 in
theorem page1_any {w : World} {b off : Nat} {c : Array Value} {e : TypeId} {fr : Nat × Nat} {s : StS} (hb : w.heap[b]? = some (.cells c e fr)) (hc : StIn c off s) (pages : Nat) (hp : pages ≤ 3840) :
    Calls Tryz.prog 61 #[.pointer (some ⟨b, off, none⟩), .int .i64 1, .int .i64 pages] w fun e w' => e = .returned (.agg (secA (s.bitPage pages))) ∧ Tch [] w w' := by
  obtain ⟨w1, hw1⟩ : ∃ w1, (w.alloc (.cells (secA (Arr.zero : Page)) 54)).alloc (.cells (secA (Arr.zero : Page)) 54) = w1 := ⟨_, rfl⟩
  have HW1 := Lib.hid hw1
  have HB := Lib.hid hb
  have HC := Lib.hid hc
  clear hw1 hb hc
  go_enter Tryz.func61, Tryz.ntmps61
  go_upto_region 2 with ((with_reducible refine wc_alloc_arr pageT ?_); go_frame; (try simp only [World.size_alloc]))
  rw [HW1.out]
  have hR : w1.heap[w.heap.size]? = some (.cells (secA (Arr.zero : Page)) 54) := by
    rw [← HW1.out, heap_alloc, if_neg (by simp), heap_alloc, if_pos rfl]
  have hP : w1.heap[w.heap.size + 1]? = some (.cells (secA (Arr.zero : Page)) 54) := by
    rw [← HW1.out, heap_alloc, if_pos (by simp)]
  have ht : Tch [] w w1 := by rw [← HW1.out]; exact ((Tch.refl _ _).alloc _).alloc _
  have R1 := Lib.hid hR
  have P1 := Lib.hid hP
  have T1 := Lib.hid ht
  clear hR hP ht HW1
  go_wp2_with fail
  have hB1 : w.heap.size + 1 = w.heap.size + 1 := rfl
  clear hB1
  have HNE : Hid (w.heap.size ≠ w.heap.size + 1 ∧ w.heap.size ≤ w.heap.size) := ⟨by omega, Nat.le_refl _⟩
  generalize hbb : w.heap.size + 1 = bx at *
  generalize hbr : w.heap.size = br at *
  have HBX : Hid (w.heap.size ≤ bx ∧ w.heap.size ≤ br ∧ br ≠ bx) := ⟨by omega, by omega, by omega⟩
  clear hbb hbr HNE
  go_loopg [11] pages (fun q i wr => ∃ j, OnAt pages i q j ∧ wr.heap[bx]? = some (.cells (secA (s.bitPage j)) 54) ∧ Tch [bx] w1 wr)
  case atStart => exact ⟨0, ⟨Nat.zero_le _, rfl, rfl⟩, by rw [bitPage_zero]; exact P1.out, Tch.refl _ _⟩
  case round =>
    obtain ⟨j, ⟨hj, rfl, rfl⟩, hG, hT⟩ := hrel
    have HG := Lib.hid hG
    have HT := Lib.hid hT
    clear hG hT
    by_cases hjp : j < pages
    · have HBW := Lib.hid ((HT.out.heap (T1.out.heap HB.out (by simp)) (by have := lt_of_heap HB.out; have := HBX.out; simp; omega)))
      have CH := Lib.hid (has_any HBW.out HC.out j (by omega))
      cases ht : s.taken j with
      | false =>
        rw [ht] at CH
        have hst : s.bitPage (j + 1) = s.bitPage j := by rw [bitPage_step s j (by omega), if_neg (by rw [ht]; simp)]
        have HST := Lib.hid hst
        clear ht hst
        go_wp2_with (go_at_call 60; refine CH.out.mono ?_; rintro e w' ⟨rfl, rfl⟩)
        go_roundg (pages - (j + 1))
        case measure => omega
        case rel => exact ⟨j + 1, ⟨by omega, by go_num, rfl⟩, by rw [HST.out]; exact HG.out, HT.out⟩
      | true =>
        rw [ht] at CH
        have hst := bitPage_step s j (by omega)
        rw [if_pos ht] at hst
        have HST := Lib.hid hst
        obtain ⟨u, hu⟩ : ∃ u, (s.bitPage j).l.getD (j / 8) 0 = u := ⟨_, rfl⟩
        have hlen : j / 8 < (s.bitPage j).l.length := by rw [(s.bitPage j).h]; omega
        have c0 : wr.cell? ⟨bx, j / 8, none⟩ = some (.int .u8 u.toNat) := by
          rw [cell_of_row wr bx _ _ _ _ HG.out, show secA (s.bitPage j) = bytesA (s.bitPage j).l from rfl, bytesA_get, ← hu, List.getD_eq_getElem?_getD, List.getElem?_eq_getElem hlen]
          rfl
        have f0 := frozen_of_row wr bx (j / 8) _ _ HG.out
        have e38 : j % 3840 = j := Nat.mod_eq_of_lt (by omega)
        have e39 : (j : Int) % 3840 = (j : Int) := by omega
        have hor : bits .or .u8 (u.toNat : Int) ((2 : Int) ^ (j % 8) % 256) = ((u.toNat ||| 2 ^ (j % 8) : Nat) : Int) := by
          have h8 : 2 ^ (j % 8) < 256 := Nat.lt_of_lt_of_eq (Nat.pow_lt_pow_right (a := 2) (by decide) (Nat.mod_lt j (by decide : 0 < 8))) (by decide)
          have e : ((2 : Int) ^ (j % 8)) % 256 = ((2 ^ (j % 8) : Nat) : Int) := by
            rw [show ((2 : Int) ^ (j % 8)) = ((2 ^ (j % 8) : Nat) : Int) by simp]
            generalize 2 ^ (j % 8) = z at *
            omega
          rw [e, u8_or_nat _ _ (UInt8.toNat_lt u) h8]
        have HOR := Lib.hid hor
        have HU := Lib.hid hu
        clear ht hst hlen hu hor
        go_upto_region 15 with (go_at_call 60; refine CH.out.mono ?_; rintro e w' ⟨rfl, rfl⟩)
        (refine wp_region_walk (C := fun w' => ∃ n, w' = World.drewN wr n) 10 (by kernel_rfl) (by kernel_rfl) ⟨1, rfl⟩ ?_; simp only [List.take_succ_cons, List.take_zero, List.drop_succ_cons, List.drop_zero]; (repeat (first | fail | go_big_quiet_step (fail))); refine wpQuiet_nil ?_; intro _ hw'; obtain ⟨nq, hw''⟩ := hw'; subst hw'')
        have c1 : (wr.drewN nq).cell? ⟨bx, j / 8, none⟩ = some (.int .u8 u.toNat) := c0
        have f1 : (wr.drewN nq).frozen? ⟨bx, j / 8, none⟩ = false := f0
        go_wp2_with fail
        rw [HOR.out]
        go_roundg (pages - (j + 1))
        case measure => omega
        case rel =>
          refine ⟨j + 1, ⟨by omega, by go_num, rfl⟩, ?_, (HT.out.trans ((tch_drewN wr nq).mono (by simp))).setCell (.inl (by simp)) _⟩
          have := heap_setCell_cells (w := wr.drewN nq) HG.out (j / 8) (.int .u8 ((u.toNat ||| 2 ^ (j % 8) : Nat) : Int))
          rw [this, HST.out]
          have h8 : u.toNat ||| 2 ^ (j % 8) < 256 := Nat.or_lt_two_pow (n := 8) (UInt8.toNat_lt _) (Nat.pow_lt_pow_right (by decide) (Nat.mod_lt _ (by decide)))
          have e : Value.int .u8 ((u.toNat ||| 2 ^ (j % 8) : Nat) : Int) = bv (UInt8.ofNat (u.toNat ||| 2 ^ (j % 8))) := by
            unfold bv; rw [toNat_ofNat8, Nat.mod_eq_of_lt h8]
          rw [e, show secA (s.bitPage j) = bytesA (s.bitPage j).l from rfl, bytesA_set, HU.out]
          rfl
    · have hjp' : j = pages := by omega
      subst hjp'
      have R8 := Lib.hid (HT.out.heap R1.out (by have := HBX.out; simp; omega))
      go_wp2_with (first | ((with_reducible apply wc_load_var pageT HG.out); exact rfl; go_frame) | ((with_reducible apply wc_store_var pageT R8.out); exact rfl; exact rfl; go_frame))
      refine bodyPost_ret (res_cell pageT.agg rfl _ rfl (setRow_heap _ _ _ _ _ _ R8.out) (size_secA _)) rfl ?_
      have h2 := HBX.out
      exact ⟨rfl, ((T1.out.mono (by simp)).trans HT.out).drop (fun k hk => .inr (by rw [List.mem_singleton.1 hk]; exact h2.1)) |>.setRow (.inr (by omega)) _⟩
/-- Both. -/
theorem page_any {w : World} {b off : Nat} {c : Array Value} {e : TypeId} {fr : Nat × Nat} {s : StS} (hb : w.heap[b]? = some (.cells c e fr)) (hc : StIn c off s) (hr : ∀ i, s.roots i < 4294967296) (n pages : Nat) (hn : n ≤ 1) (hp : pages ≤ 3840) :
    Calls Tryz.prog 61 #[.pointer (some ⟨b, off, none⟩), .int .i64 n, .int .i64 pages] w fun e w' => e = .returned (.agg (secA (s.page n pages))) ∧ Tch [] w w' := by
  rcases (show n = 0 ∨ n = 1 by omega) with rfl | rfl
  · exact page0_any hb hc hr pages
  · exact page1_any hb hc pages hp
end Go.Proofs.YtkjgbhpnlgcinaaGreatDoor
/-
  Pages in memory: what is asked of them: package page's may, First, Pages, Taken, Free, Root.
-/
namespace Go.Cib
open Go Go.RowKit
theorem mid_get (A B C : Array Value) {j : Nat} (h : j < B.size) : (A ++ B ++ C)[A.size + j]? = B[j]? := by
  rw [Array.append_assoc, Array.getElem?_append_right (by omega), Array.getElem?_append_left (by omega)]
  congr 1
  omega
theorem mid_set (A B C : Array Value) {k : Nat} (h : k < B.size) (v : Value) : (A ++ B ++ C).setIfInBounds (A.size + k) v = A ++ B.setIfInBounds k v ++ C := by
  rw [Array.append_assoc, Array.setIfInBounds_append_right (by omega), Array.setIfInBounds_append_left (by omega), Array.append_assoc, show A.size + k - A.size = k by omega]
theorem mid_spl (A B C v : Array Value) (h : v.size = B.size) : spl (A ++ B ++ C) A.size v = A ++ v ++ C := by
  unfold spl
  apply Array.toList_inj.1
  simp only [Array.toList_append, List.append_assoc]
  rw [List.take_left' (Array.length_toList ..), h, show A.size + B.size = (A.toList ++ B.toList).length by simp, ← List.append_assoc A.toList B.toList C.toList, List.drop_left' rfl]
theorem StS.free_cnt (s : StS) (pages : Nat) (h : ∀ n, pages ≤ n → s.taken n = false) (m : Nat) (hm : pages ≤ m) : s.free pages + cnt s.taken m = pages := by
  have h1 : ∀ n, cnt s.taken n + ((List.range n).filter fun n => !s.taken n).length = n := by
    intro n
    induction n with
    | zero => rfl
    | succ n ih =>
      rw [List.range_succ, List.filter_append, List.length_append]
      unfold cnt
      cases h : s.taken n <;> simp [h] <;> omega
  have h2 : cnt s.taken m = cnt s.taken pages := by
    obtain ⟨k, rfl⟩ : ∃ k, m = pages + k := ⟨m - pages, by omega⟩
    rw [cnt_add]
    have : ∀ k, cnt (fun j => s.taken (pages + j)) k = 0 := by
      intro k
      induction k with
      | zero => rfl
      | succ k ih => unfold cnt; rw [ih, h _ (by omega)]; rfl
    rw [this k, Nat.add_zero]
  rw [h2]
  have := h1 pages
  unfold StS.free
  omega
theorem StS.count (s : StS) (pages : Nat) (h : ∀ n, pages ≤ n → s.taken n = false) (hp : pages ≤ 16384) : ∃ F : Nat → Nat, F 0 = 0 ∧ (∀ j, F (j + 1) = F j + cnt (fun k => s.taken (64 * j + k)) 64) ∧ s.free pages + F 256 = pages ∧ ∀ j, F j ≤ 64 * j :=
  ⟨fun j => cnt s.taken (64 * j), rfl, fun j => cnt_add s.taken (64 * j) 64, StS.free_cnt s pages h 16384 hp, fun j => cnt_le _ _⟩
theorem StS.word_cnt (s : StS) (i : Nat) : cnt (s.word i).testBit 64 = cnt (fun j => s.taken (64 * i + j)) 64 := by
  refine cnt_congr fun j hj => ?_
  unfold StS.word
  rw [bitsN_test, decide_eq_true hj, Bool.true_and]
end Go.Cib
namespace Go.Proofs.YtkjgbhpnlgcinaaGreatDoor
open Go.RowKit Go.Cib
theorem stA_setw (s : StS) (n : Nat) (tk : Bool) (hn : n < 16384) : (stA s).setIfInBounds (n / 64) (.int .u64 ((s.set n tk).word (n / 64))) = stA (s.set n tk) := by
  apply Array.ext_getElem?
  intro j
  obtain ⟨h1, h2⟩ := stA_set_word s n tk hn
  rw [Array.getElem?_setIfInBounds]
  by_cases e : n / 64 = j
  · subst e
    rw [if_pos rfl, if_pos (by rw [size_stA]; omega), h1]
  · rw [if_neg e]
    by_cases hj : j < 264
    · exact (h2 j hj (Ne.symm e)).symm
    · rw [Array.getElem?_eq_none (by rw [size_stA]; omega), Array.getElem?_eq_none (by rw [size_stA]; omega)]
theorem stA_setr (s : StS) (i n : Nat) (hi : i < 8) : (stA s).setIfInBounds (256 + i) (.int .i64 n) = stA (s.setRoot i n) := by
  apply Array.ext_getElem?
  intro j
  obtain ⟨h1, h2⟩ := stA_set_root s i n hi
  rw [Array.getElem?_setIfInBounds]
  by_cases e : 256 + i = j
  · subst e
    rw [if_pos rfl, if_pos (by rw [size_stA]; omega), h1]
  · rw [if_neg e]
    by_cases hj : j < 264
    · exact (h2 j hj (Ne.symm e)).symm
    · rw [Array.getElem?_eq_none (by rw [size_stA]; omega), Array.getElem?_eq_none (by rw [size_stA]; omega)]
/-- A pager's cells. -/
def pgH (g pages : Nat) : Array Value := #[.pointer (some ⟨g, 0, none⟩), .int .i64 pages, .int .i64 2]
theorem size_pgH (g pages : Nat) : (pgH g pages).size = 3 := rfl
def pgA (g pages : Nat) (s1 s2 : StS) (Mo : Nat) : Array Value := pgH g pages ++ stA s1 ++ (stA s2 ++ #[.map (some Mo)])
theorem pgA_alt (g pages : Nat) (s1 s2 : StS) (Mo : Nat) : pgA g pages s1 s2 Mo = (pgH g pages ++ stA s1) ++ stA s2 ++ #[.map (some Mo)] := by
  unfold pgA
  exact (Array.append_assoc).symm
theorem size_pgA (g pages : Nat) (s1 s2 : StS) (Mo : Nat) : (pgA g pages s1 s2 Mo).size = 532 := by
  unfold pgA
  rw [Array.size_append, Array.size_append, Array.size_append, size_stA, size_stA, size_pgH]; rfl
theorem pgA_low (g pages : Nat) (s1 s2 : StS) (Mo : Nat) {j : Nat} (h : j < 3) : (pgA g pages s1 s2 Mo)[j]? = (pgH g pages)[j]? := by
  unfold pgA
  rw [Array.append_assoc, Array.getElem?_append_left (by rw [size_pgH]; exact h)]
theorem pgA_now (g pages : Nat) (s1 s2 : StS) (Mo : Nat) : StIn (pgA g pages s1 s2 Mo) 3 s1 := by
  refine ⟨by rw [size_pgA]; omega, fun j hj => ?_⟩
  exact mid_get (pgH g pages) (stA s1) _ (by rw [size_stA]; exact hj)
theorem pgA_last (g pages : Nat) (s1 s2 : StS) (Mo : Nat) : StIn (pgA g pages s1 s2 Mo) 267 s2 := by
  refine ⟨by rw [size_pgA]; omega, fun j hj => ?_⟩
  rw [pgA_alt]
  have h := mid_get (pgH g pages ++ stA s1) (stA s2) #[.map (some Mo)] (j := j) (by rw [size_stA]; exact hj)
  rw [Array.size_append, size_stA, size_pgH] at h
  exact h
theorem pgA_map (g pages : Nat) (s1 s2 : StS) (Mo : Nat) : (pgA g pages s1 s2 Mo)[531]? = some (.map (some Mo)) := by
  rw [pgA_alt, Array.getElem?_append_right (by rw [Array.size_append, Array.size_append, size_stA, size_stA, size_pgH]; decide), Array.size_append, Array.size_append, size_stA, size_stA, size_pgH]
  rfl
theorem pgA_set (g pages : Nat) (s1 s2 : StS) (Mo : Nat) {k : Nat} (hk : k < 264) {v : Value} {s : StS} (h : (stA s1).setIfInBounds k v = stA s) : (pgA g pages s1 s2 Mo).setIfInBounds (3 + k) v = pgA g pages s s2 Mo := by
  unfold pgA
  rw [show 3 + k = (pgH g pages).size + k from rfl, mid_set _ _ _ (by rw [size_stA]; exact hk), h]
theorem pgA_storeNow (g pages : Nat) (s1 s2 s : StS) (Mo : Nat) : spl (pgA g pages s1 s2 Mo) 3 (stA s) = pgA g pages s s2 Mo := by
  unfold pgA
  exact mid_spl (pgH g pages) (stA s1) _ (stA s) (by rw [size_stA, size_stA])
theorem pgA_storeLast (g pages : Nat) (s1 s2 s : StS) (Mo : Nat) : spl (pgA g pages s1 s2 Mo) 267 (stA s) = pgA g pages s1 s Mo := by
  rw [pgA_alt, pgA_alt]
  have h := mid_spl (pgH g pages ++ stA s1) (stA s2) #[.map (some Mo)] (stA s) (by rw [size_stA, size_stA])
  rw [Array.size_append, size_stA, size_pgH] at h
  exact h
abbrev overV (o : Int → Option Page) : Int → Option Value := fun i => (o i).map fun x => .agg (secA x)
/-- Block p is the pager P over the log in block g. -/
structure PgAt (w : World) (p g d L M V Mo : Nat) (P : PgS) : Prop where
  hp : w.heap[p]? = some (.cells (pgA g P.pages P.now P.last Mo) 104)
  log : LogAt w g d L M V P.log
  hM : MapAt kInt w Mo (overV P.over)
  tab : Tab w
  oM : Mo ≠ M
  oV : Mo ≠ V
  nz : 0 ∉ [p, g, d, L, M, V, Mo]
abbrev pgB (p g d L M V Mo : Nat) : List Nat := [p, g, d, L, M, V, Mo]
theorem Tab.touch {w w' : World} {S : List Nat} (h : Tab w) (ht : Tch S w w') (hn : 0 ∉ S) : Tab w' := fun i x hi => by
  have hc := h i x hi
  have hlt := block_lt_of_cell hc
  have := ht.block 0 hlt hn
  unfold World.cell? at hc ⊢
  simp only at hc ⊢
  rw [this]
  exact hc
theorem PgAt.touch {w w' : World} {p g d L M V Mo : Nat} {P : PgS} {X : List Nat} (h : PgAt w p g d L M V Mo P) (ht : Tch X w w') (hn : ∀ k ∈ 0 :: pgB p g d L M V Mo, k ∉ X) : PgAt w' p g d L M V Mo P :=
  ⟨ht.heap h.hp (hn _ (by simp)), h.log.touch ht (hn _ (by simp)) (hn _ (by simp)) (hn _ (by simp)) (hn _ (by simp)) (hn _ (by simp)), h.hM.touch ht (hn _ (by simp)), h.tab.touch ht (hn _ (by simp)), h.oM, h.oV, h.nz⟩
theorem PgAt.old {w w' : World} {p g d L M V Mo : Nat} {P : PgS} (h : PgAt w p g d L M V Mo P) (ht : Tch [] w w') : PgAt w' p g d L M V Mo P := h.touch ht (by simp)
theorem PgAt.c0 {w : World} {p g d L M V Mo : Nat} {P : PgS} (h : PgAt w p g d L M V Mo P) : w.cell? ⟨p, 0, none⟩ = some (.pointer (some ⟨g, 0, none⟩)) := by
  rw [cell_of_row w p 0 _ _ _ h.hp, pgA_low _ _ _ _ _ (by decide)]; rfl
theorem PgAt.c1 {w : World} {p g d L M V Mo : Nat} {P : PgS} (h : PgAt w p g d L M V Mo P) : w.cell? ⟨p, 1, none⟩ = some (.int .i64 P.pages) := by
  rw [cell_of_row w p 1 _ _ _ h.hp, pgA_low _ _ _ _ _ (by decide)]; rfl
theorem PgAt.c2 {w : World} {p g d L M V Mo : Nat} {P : PgS} (h : PgAt w p g d L M V Mo P) : w.cell? ⟨p, 2, none⟩ = some (.int .i64 2) := by
  rw [cell_of_row w p 2 _ _ _ h.hp, pgA_low _ _ _ _ _ (by decide)]; rfl
theorem PgAt.cM {w : World} {p g d L M V Mo : Nat} {P : PgS} (h : PgAt w p g d L M V Mo P) : w.cell? ⟨p, 531, none⟩ = some (.map (some Mo)) := by
  rw [cell_of_row w p 531 _ _ _ h.hp, pgA_map]
theorem PgAt.cR {w : World} {p g d L M V Mo : Nat} {P : PgS} (h : PgAt w p g d L M V Mo P) {i : Nat} (hi : i < 8) : w.cell? ⟨p, 259 + i, none⟩ = some (.int .i64 (P.now.roots i)) := by
  rw [cell_of_row w p (259 + i) _ _ _ h.hp, show 259 + i = 3 + (256 + i) by omega, (pgA_now _ _ _ _ _).get _ (by omega), stA_root _ hi]
theorem pmay_any {w : World} {p g d L M V Mo : Nat} {P : PgS} (h : PgAt w p g d L M V Mo P) (ok : P.Ok) (n : Int) :
    Calls Tryz.prog 52 #[.pointer (some ⟨p, 0, none⟩), .int .i64 n] w fun e w' => e = .returned (.int .i64 (P.may n)) ∧ w = w' := by
  have c1 := h.c1
  have c2 := h.c2
  have p4 := ok.p4
  by_cases h1 : n < 2
  · have e : P.may n = 2 := if_pos (.inl h1)
    rw [e]
    clear e h ok
    go_enter Tryz.func52, Tryz.ntmps52
    go_wp2_with fail
    go_ret
    exact ⟨rfl, rfl⟩
  by_cases h2 : (P.pages : Int) ≤ n
  · have e : P.may n = 2 := if_pos (.inr h2)
    rw [e]
    clear e h ok
    go_enter Tryz.func52, Tryz.ntmps52
    go_wp2_with fail
    go_ret
    exact ⟨rfl, rfl⟩
  obtain ⟨k, rfl⟩ := Int.eq_ofNat_of_zero_le (show 0 ≤ n by omega)
  have CH := Lib.hid (has_any h.hp (pgA_now _ _ _ _ _) k (by omega))
  cases ht : P.now.taken k with
  | false =>
    have e : P.may k = 91 := by unfold PgS.may; rw [if_neg (by omega), Int.toNat_natCast, if_pos ht]
    rw [ht] at CH
    rw [e]
    clear e h ok ht
    go_enter Tryz.func52, Tryz.ntmps52
    go_wp2_with (go_at_call 60; refine CH.out.mono ?_; rintro e w' ⟨rfl, rfl⟩)
    go_ret
    exact ⟨rfl, rfl⟩
  | true =>
    have e : P.may k = 0 := by unfold PgS.may; rw [if_neg (by omega), Int.toNat_natCast, if_neg (by rw [ht]; simp)]
    rw [ht] at CH
    rw [e]
    clear e h ok ht
    go_enter Tryz.func52, Tryz.ntmps52
    go_wp2_with (go_at_call 60; refine CH.out.mono ?_; rintro e w' ⟨rfl, rfl⟩)
    go_ret
    exact ⟨rfl, rfl⟩
theorem pfirst_any {w : World} {p g d L M V Mo : Nat} {P : PgS} (h : PgAt w p g d L M V Mo P) : Calls Tryz.prog 11 #[.pointer (some ⟨p, 0, none⟩)] w fun e w' => e = .returned (.int .i64 2) ∧ w = w' := by
  have c2 := h.c2
  clear h
  go_enter Tryz.func11, Tryz.ntmps11
  go_wp2_with fail
  go_ret
  exact ⟨rfl, rfl⟩
theorem ppages_any {w : World} {p g d L M V Mo : Nat} {P : PgS} (h : PgAt w p g d L M V Mo P) : Calls Tryz.prog 16 #[.pointer (some ⟨p, 0, none⟩)] w fun e w' => e = .returned (.int .i64 P.pages) ∧ w = w' := by
  have c1 := h.c1
  clear h
  go_enter Tryz.func16, Tryz.ntmps16
  go_wp2_with fail
  go_ret
  exact ⟨rfl, rfl⟩
/-- 'Taken'. -/
def PgS.isTaken (P : PgS) (n : Int) : Bool := decide (0 ≤ n) && (decide (n < P.pages) && P.now.taken n.toNat)
theorem ptaken_any {w : World} {p g d L M V Mo : Nat} {P : PgS} (h : PgAt w p g d L M V Mo P) (ok : P.Ok) (n : Int) : Calls Tryz.prog 26 #[.pointer (some ⟨p, 0, none⟩), .int .i64 n] w fun e w' => e = .returned (.bool (PgS.isTaken P n)) ∧ w = w' := by
  have c1 := h.c1
  have p4 := ok.p4
  by_cases h1 : n < 0
  · have e : PgS.isTaken P n = false := by unfold PgS.isTaken; rw [decide_eq_false (by omega)]; rfl
    rw [e]
    clear e h ok
    go_enter Tryz.func26, Tryz.ntmps26
    go_wp2_with fail
    go_ret
    exact ⟨rfl, rfl⟩
  by_cases h2 : (P.pages : Int) ≤ n
  · have e : PgS.isTaken P n = false := by unfold PgS.isTaken; rw [decide_eq_false (show ¬ n < P.pages by omega)]; simp
    rw [e]
    clear e h ok
    go_enter Tryz.func26, Tryz.ntmps26
    go_wp2_with fail
    go_ret
    exact ⟨rfl, rfl⟩
  obtain ⟨k, rfl⟩ := Int.eq_ofNat_of_zero_le (show 0 ≤ n by omega)
  have CH := Lib.hid (has_any h.hp (pgA_now _ _ _ _ _) k (by omega))
  have e : PgS.isTaken P k = P.now.taken k := by unfold PgS.isTaken; rw [decide_eq_true (show (0 : Int) ≤ k by omega), decide_eq_true (show (k : Int) < P.pages by omega)]; rfl
  rw [e]
  generalize P.now.taken k = bb at *
  clear e h ok
  go_enter Tryz.func26, Tryz.ntmps26
  go_wp2_with (go_at_call 60; refine CH.out.mono ?_; rintro e w' ⟨rfl, rfl⟩)
  go_ret
  exact ⟨rfl, rfl⟩
theorem proot_any {w : World} {p g d L M V Mo : Nat} {P : PgS} (h : PgAt w p g d L M V Mo P) (i : Int) : Calls Tryz.prog 24 #[.pointer (some ⟨p, 0, none⟩), .int .i64 i] w fun e w' => e = .returned (.tuple #[.int .i64 (P.root i).1, .int .i64 (P.root i).2]) ∧ w = w' := by
  by_cases h1 : i < 0
  · have e : P.root i = (0, 2) := if_pos (.inl h1)
    rw [e]
    clear e h
    go_enter Tryz.func24, Tryz.ntmps24
    go_wp2_with fail
    go_ret2
    exact ⟨rfl, rfl⟩
  by_cases h2 : 8 ≤ i
  · have e : P.root i = (0, 2) := if_pos (.inr h2)
    rw [e]
    clear e h
    go_enter Tryz.func24, Tryz.ntmps24
    go_wp2_with fail
    go_ret2
    exact ⟨rfl, rfl⟩
  obtain ⟨k, rfl⟩ := Int.eq_ofNat_of_zero_le (show 0 ≤ i by omega)
  have cR := h.cR (i := k) (by omega)
  have e : P.root k = ((P.now.roots k : Int), 0) := if_neg (by omega)
  rw [e]
  generalize P.now.roots k = r at *
  clear e h
  go_enter Tryz.func24, Tryz.ntmps24
  go_wp2_with fail
  go_ret2
  exact ⟨rfl, rfl⟩
end Go.Proofs.YtkjgbhpnlgcinaaGreatDoor
