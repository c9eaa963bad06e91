/-
  The check tells every burst: two sectors that differ in bits within 32 that follow one another have unlike checks.
-/
import Derived.Test.YthbaipljlbddcaaFrame
namespace Go.Cib
theorem xor_half (a b : Nat) : (a ^^^ b) / 2 = a / 2 ^^^ b / 2 := by
  have := Nat.shiftRight_xor_distrib (a := a) (b := b) (i := 1)
  simpa [Nat.shiftRight_eq_div_pow] using this
theorem xor_odd (a b : Nat) : (a ^^^ b) % 2 = (a % 2 + b % 2) % 2 := by
  have := Nat.xor_mod_two_pow (a := a) (b := b) (n := 1)
  simp only [Nat.pow_one] at this
  rw [this]
  have ha : a % 2 = 0 ∨ a % 2 = 1 := by omega
  have hb : b % 2 = 0 ∨ b % 2 = 1 := by omega
  rcases ha with ha | ha <;> rcases hb with hb | hb <;> rw [ha, hb] <;> rfl
theorem crcBit_xor (a b : Nat) : crcBit (a ^^^ b) = crcBit a ^^^ crcBit b := by
  unfold crcBit
  have hm := xor_odd a b
  have ha : a % 2 = 0 ∨ a % 2 = 1 := by omega
  have hb : b % 2 = 0 ∨ b % 2 = 1 := by omega
  have hx := xor_half a b
  rcases ha with ha | ha <;> rcases hb with hb | hb
  · rw [if_neg (by omega), if_neg (by omega), if_neg (by omega), hx]
  · rw [if_pos (by omega), if_neg (by omega), if_pos (by omega), hx, Nat.xor_assoc]
  · rw [if_pos (by omega), if_pos (by omega), if_neg (by omega), hx, Nat.xor_assoc, Nat.xor_assoc, Nat.xor_comm (b / 2)]
  · rw [if_neg (by omega), if_pos (by omega), if_pos (by omega), hx]
    rw [Nat.xor_assoc, Nat.xor_comm 2197175160 (b / 2 ^^^ 2197175160), Nat.xor_assoc, Nat.xor_self, Nat.xor_zero]
theorem crcBits_xor (a b : Nat) : ∀ k, crcBits k (a ^^^ b) = crcBits k a ^^^ crcBits k b
  | 0 => rfl
  | k + 1 => by simp only [crcBits, crcBits_xor a b k, crcBit_xor]
theorem crcBit_double (c : Nat) : crcBit (c * 2) = c := by
  unfold crcBit
  rw [if_neg (by omega)]
  omega
theorem crcBits_add (j : Nat) (c : Nat) : ∀ k, crcBits (j + k) c = crcBits k (crcBits j c)
  | 0 => rfl
  | k + 1 => by
    show crcBit (crcBits (j + k) c) = crcBit (crcBits k (crcBits j c))
    rw [crcBits_add j c k]
theorem crcBits_shift (c : Nat) : ∀ k, crcBits k (c * 2 ^ k) = c
  | 0 => by simp [crcBits]
  | k + 1 => by
    rw [Nat.add_comm k 1, crcBits_add 1]
    show crcBits k (crcBit (c * 2 ^ (1 + k))) = c
    rw [show c * 2 ^ (1 + k) = c * 2 ^ k * 2 by rw [Nat.add_comm 1 k, Nat.pow_succ, Nat.mul_assoc], crcBit_double, crcBits_shift c k]
theorem crcBit_ne {c : Nat} (h0 : c ≠ 0) (h : c < 4294967296) : crcBit c ≠ 0 := by
  unfold crcBit
  split
  · intro e
    have : c / 2 = 2197175160 := by
      have h2 := congrArg (fun x => x ^^^ 2197175160) e
      simp only [Nat.xor_assoc, Nat.xor_self, Nat.xor_zero, Nat.zero_xor] at h2
      exact h2
    omega
  · omega
theorem crcBits_ne {c : Nat} (h0 : c ≠ 0) (h : c < 4294967296) : ∀ k, crcBits k c ≠ 0
  | 0 => h0
  | k + 1 => crcBit_ne (crcBits_ne h0 h k) (crcBits_lt h k)
/-- The bits in which two sectors differ, outside of the check. -/
def difTo (s t : List UInt8) : Nat → Nat
  | 0 => 0
  | n + 1 => difTo s t n ^^^ (if n < 28 ∨ 32 ≤ n then ((s.getD n 0).toNat ^^^ (t.getD n 0).toNat) * 2 ^ (8 * n) else 0)
theorem crcBits_zero : ∀ k, crcBits k 0 = 0
  | 0 => rfl
  | k + 1 => by simp [crcBits, crcBits_zero k, crcBit]
theorem crcTo_dif (s t : List UInt8) : ∀ n, crcTo s n ^^^ crcTo t n = crcBits (8 * n) (difTo s t n)
  | 0 => by simp [crcTo, difTo, crcBits]
  | n + 1 => by
    have ih := crcTo_dif s t n
    rw [show 8 * (n + 1) = 8 * n + 8 by omega, crcBits_add, crcTo, crcTo, difTo, ← crcBits_xor]
    congr 1
    rw [crcBits_xor, ← ih]
    by_cases h : n < 28 ∨ 32 ≤ n
    · rw [if_pos h, if_pos h, if_pos h, crcBits_shift]
      rw [Nat.xor_assoc, Nat.xor_assoc]
      congr 1
      rw [← Nat.xor_assoc, Nat.xor_comm _ (crcTo t n), Nat.xor_assoc]
    · rw [if_neg h, if_neg h, if_neg h, crcBits_zero, Nat.xor_zero]
theorem xor_cancel {a b c : Nat} (h : a ^^^ b = a ^^^ c) : b = c := by
  have := congrArg (fun x => a ^^^ x) h
  simpa only [← Nat.xor_assoc, Nat.xor_self, Nat.zero_xor] using this
/-- A burst of up to 32 bits turns the check. -/
theorem crc_burst {s t : List UInt8} (hs : s.length = 512) (ht : t.length = 512) {b at_ : Nat} (hd : difTo s t 512 = b * 2 ^ at_) (h0 : b ≠ 0) (h : b < 4294967296) (ha : at_ ≤ 4096) : crcOf s ≠ crcOf t := by
  intro e
  unfold crcOf at e
  rw [hs, ht] at e
  have e2 := xor_cancel e
  have h1 := crcTo_dif s t 512
  rw [e2, Nat.xor_self, hd] at h1
  obtain ⟨k, hk⟩ := Nat.exists_eq_add_of_le ha
  rw [show 8 * 512 = at_ + k by omega, crcBits_add, crcBits_shift] at h1
  exact crcBits_ne h0 h k h1.symm
theorem crc_same {s t : List UInt8} (hs : s.length = t.length) (hd : ∀ i, i < 28 ∨ 32 ≤ i → s.getD i 0 = t.getD i 0) : crcOf s = crcOf t := by
  have key : ∀ n, crcTo s n = crcTo t n := by
    intro n
    induction n with
    | zero => rfl
    | succ n ih =>
      simp only [crcTo, ih]
      by_cases h : n < 28 ∨ 32 ≤ n
      · rw [if_pos h, if_pos h, hd n h]
      · rw [if_neg h, if_neg h]
  unfold crcOf
  rw [hs, key]
end Go.Cib
