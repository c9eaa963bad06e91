/-
  What a sector of the log says: numbers as bytes, the check, frames and sectors; plain, no Go in it.
-/
import Derived.Test.YtkjgbhpnlgcinaaGreatDoorMB
namespace Go.Cib
open Go Go.RowKit
abbrev Page := Arr 480
/-- A number's bytes, the highest first. -/
def be : Nat → Nat → List UInt8
  | 0, _ => []
  | k + 1, n => be k (n / 256) ++ [UInt8.ofNat n]
@[simp] theorem length_be : ∀ (k n : Nat), (be k n).length = k
  | 0, _ => rfl
  | k + 1, n => by simp [be, length_be k]
def beVal (l : List UInt8) : Nat := l.foldl (fun v x => v * 256 + x.toNat) 0
theorem beVal_snoc (l : List UInt8) (x : UInt8) : beVal (l ++ [x]) = beVal l * 256 + x.toNat := by simp [beVal]
theorem beVal_lt (l : List UInt8) : beVal l < 256 ^ l.length := by
  have key : ∀ (r : List UInt8) (n : Nat), r.length = n → beVal r < 256 ^ n := by
    intro r n
    induction n generalizing r with
    | zero => intro h; rw [List.eq_nil_of_length_eq_zero h]; decide
    | succ n ih =>
      intro h
      have hne : r ≠ [] := by intro e; subst e; simp at h
      obtain ⟨q, x, rfl⟩ : ∃ q x, r = q ++ [x] := ⟨_, _, (List.dropLast_concat_getLast hne).symm⟩
      have := ih q (by simpa using h)
      have hx := x.toNat_lt
      rw [beVal_snoc, Nat.pow_succ]
      omega
  exact key l _ rfl
theorem toNat_ofNat8 (n : Nat) : (UInt8.ofNat n).toNat = n % 256 := by simp
theorem beVal_be : ∀ (k n : Nat), n < 256 ^ k → beVal (be k n) = n
  | 0, n, h => by simp at h; subst h; rfl
  | k + 1, n, h => by
    rw [be, beVal_snoc, beVal_be k (n / 256) (by rw [Nat.pow_succ] at h; omega), toNat_ofNat8]
    omega
theorem be_beVal : ∀ (k : Nat) (l : List UInt8), l.length = k → be k (beVal l) = l
  | 0, l, h => by rw [List.eq_nil_of_length_eq_zero h]; rfl
  | k + 1, l, h => by
    have hne : l ≠ [] := by intro e; subst e; simp at h
    obtain ⟨q, x, rfl⟩ : ∃ q x, l = q ++ [x] := ⟨_, _, (List.dropLast_concat_getLast hne).symm⟩
    have hx := x.toNat_lt
    rw [beVal_snoc, be, show (beVal q * 256 + x.toNat) / 256 = beVal q by omega, be_beVal k q (by simpa using h)]
    congr 2
    apply UInt8.toNat_inj.1
    rw [toNat_ofNat8]
    omega
/-- The last bytes, one more of them. -/
theorem be_cons : ∀ (k n : Nat), be (k + 1) n = UInt8.ofNat (n / 256 ^ k) :: be k n
  | 0, n => by simp [be]
  | k + 1, n => by
    have h := be_cons k (n / 256)
    rw [be, h, be]
    simp [Nat.div_div_eq_div_mul, Nat.pow_succ, Nat.mul_comm]

/-- The check: one bit, eight bits, the bytes of a sector one behind the other (its own place counts as zero). -/
def crcBit (c : Nat) : Nat := if c % 2 = 1 then c / 2 ^^^ 2197175160 else c / 2
def crcBits : Nat → Nat → Nat
  | 0, c => c
  | k + 1, c => crcBit (crcBits k c)
def crcTo (l : List UInt8) : Nat → Nat
  | 0 => 4294967295
  | i + 1 => crcBits 8 (if i < 28 ∨ 32 ≤ i then crcTo l i ^^^ (l.getD i 0).toNat else crcTo l i)
def crcOf (l : List UInt8) : Nat := 4294967295 ^^^ crcTo l l.length
theorem xor_lt32 {a b : Nat} (ha : a < 4294967296) (hb : b < 4294967296) : a ^^^ b < 4294967296 := Nat.xor_lt_two_pow (n := 32) ha hb
theorem crcBit_lt {c : Nat} (h : c < 4294967296) : crcBit c < 4294967296 := by
  unfold crcBit
  split
  · exact xor_lt32 (by omega) (by omega)
  · omega
theorem crcBits_lt {c : Nat} (h : c < 4294967296) : ∀ k, crcBits k c < 4294967296
  | 0 => h
  | k + 1 => crcBit_lt (crcBits_lt h k)
theorem crcTo_lt (l : List UInt8) : ∀ i, crcTo l i < 4294967296
  | 0 => by unfold crcTo; omega
  | i + 1 => by
    unfold crcTo
    refine crcBits_lt ?_ 8
    have h1 := crcTo_lt l i
    have h2 := (l.getD i 0).toNat_lt
    split
    · exact xor_lt32 h1 (by omega)
    · exact h1
theorem crcOf_lt (l : List UInt8) : crcOf l < 4294967296 := xor_lt32 (by decide) (crcTo_lt l _)

/-- What a sector says. -/
structure FrameV where
  kind : UInt8
  gen : Nat
  num : Nat
  idx : Nat
  page : Page
structure FrameV.Ok (f : FrameV) : Prop where
  gen : f.gen < 18446744073709551616
  num : f.num < 18446744073709551616
  idx : f.idx < 4294967296
def FrameV.head (f : FrameV) : List UInt8 := [99, 105, 98, 111, f.kind, 0, 0, 0] ++ (be 8 f.gen ++ (be 8 f.num ++ be 4 f.idx))
theorem FrameV.length_head (f : FrameV) : f.head.length = 28 := by simp [FrameV.head]
def FrameV.with_ (f : FrameV) (c : List UInt8) : List UInt8 := f.head ++ (c ++ f.page.l)
def FrameV.check (f : FrameV) : Nat := crcOf (f.with_ [0, 0, 0, 0])
def FrameV.sector (f : FrameV) : Sec := ⟨f.with_ (be 4 f.check), by simp [FrameV.with_, FrameV.length_head, f.page.h]⟩
def parse (s : Sec) : FrameV :=
  ⟨s.l.getD 4 0, beVal ((s.l.drop 8).take 8), beVal ((s.l.drop 16).take 8), beVal ((s.l.drop 24).take 4), ⟨s.l.drop 32, by rw [List.length_drop, s.h]⟩⟩
theorem FrameV.ext' {f g : FrameV} (h1 : f.kind = g.kind) (h2 : f.gen = g.gen) (h3 : f.num = g.num) (h4 : f.idx = g.idx) (h5 : f.page = g.page) : f = g := by
  cases f; cases g; simp only at *; subst h1 h2 h3 h4 h5; rfl
theorem parse_sector {f : FrameV} (h : f.Ok) : parse f.sector = f := by
  have e : f.sector.l = [99, 105, 98, 111] ++ (f.kind :: ([0, 0, 0] ++ (be 8 f.gen ++ (be 8 f.num ++ (be 4 f.idx ++ (be 4 f.check ++ f.page.l)))))) := by
    simp [FrameV.sector, FrameV.with_, FrameV.head]
  have d8 : f.sector.l.drop 8 = be 8 f.gen ++ (be 8 f.num ++ (be 4 f.idx ++ (be 4 f.check ++ f.page.l))) := by rw [e]; simp
  have d16 : f.sector.l.drop 16 = be 8 f.num ++ (be 4 f.idx ++ (be 4 f.check ++ f.page.l)) := by
    rw [show (16 : Nat) = 8 + 8 from rfl, ← List.drop_drop, d8]
    exact List.drop_left' (by simp)
  have d24 : f.sector.l.drop 24 = be 4 f.idx ++ (be 4 f.check ++ f.page.l) := by
    rw [show (24 : Nat) = 16 + 8 from rfl, ← List.drop_drop, d16]
    exact List.drop_left' (by simp)
  have d32 : f.sector.l.drop 32 = f.page.l := by
    rw [show (32 : Nat) = 24 + 8 from rfl, ← List.drop_drop, d24, ← List.append_assoc]
    exact List.drop_left' (by simp)
  refine FrameV.ext' ?_ ?_ ?_ ?_ ?_
  · show f.sector.l.getD 4 0 = _
    rw [e]; simp
  · show beVal _ = _
    rw [d8, List.take_left' (by simp)]
    exact beVal_be 8 _ h.gen
  · show beVal _ = _
    rw [d16, List.take_left' (by simp)]
    exact beVal_be 8 _ h.num
  · show beVal _ = _
    rw [d24, List.take_left' (by simp)]
    exact beVal_be 4 _ h.idx
  · exact Arr.ext' d32
theorem parse_ok (s : Sec) : (parse s).Ok := by
  have key : ∀ (n k : Nat), n + k ≤ 512 → ((s.l.drop n).take k).length = k := by
    intro n k h
    rw [List.length_take, List.length_drop, s.h]; omega
  refine ⟨?_, ?_, ?_⟩
  · have := beVal_lt ((s.l.drop 8).take 8); rw [key 8 8 (by omega)] at this; exact this
  · have := beVal_lt ((s.l.drop 16).take 8); rw [key 16 8 (by omega)] at this; exact this
  · have := beVal_lt ((s.l.drop 24).take 4); rw [key 24 4 (by omega)] at this; exact this
/-- The frame of a sector, if it is one. -/
def reads (s : Sec) : Option FrameV := if (parse s).sector = s then some (parse s) else none
theorem reads_sector {f : FrameV} (h : f.Ok) : reads f.sector = some f := by unfold reads; rw [parse_sector h, if_pos rfl]
theorem reads_some {s : Sec} {f : FrameV} (h : reads s = some f) : s = f.sector ∧ f.Ok := by
  unfold reads at h
  split at h
  · rename_i e
    have : parse s = f := by simpa using h
    rw [this] at e
    exact ⟨e.symm, this ▸ parse_ok s⟩
  · cases h
theorem reads_zero : reads (Arr.zero : Sec) = none := by
  unfold reads
  rw [if_neg]
  intro h
  have e1 : (parse (Arr.zero : Sec)).sector.l.getD 0 0 = 99 := by
    generalize parse (Arr.zero : Sec) = f
    simp [FrameV.sector, FrameV.with_, FrameV.head]
  have e2 : (Arr.zero : Sec).l.getD 0 0 = 0 := by
    show (List.replicate 512 (0 : UInt8)).getD 0 0 = 0
    rw [List.getD_eq_getElem?_getD, List.getElem?_replicate]
    rfl
  rw [h, e2] at e1
  exact absurd e1 (by decide)

/-- A page that begins with numbers, four bytes each. -/
def numsPage (l : List Nat) : Page := Arr.text (l.flatMap fun n => be 4 n)
def numAt (p : Page) (i : Nat) : Nat := beVal ((p.l.drop (4 * i)).take 4)
theorem length_nums (l : List Nat) : (l.flatMap fun n => be 4 n).length = 4 * l.length := by
  induction l with
  | nil => rfl
  | cons x r ih => rw [List.flatMap_cons, List.length_append, ih, length_be, List.length_cons]; omega
theorem drop_nums : ∀ (l : List Nat) (i : Nat), i ≤ l.length → (l.flatMap fun n => be 4 n).drop (4 * i) = (l.drop i).flatMap fun n => be 4 n
  | l, 0, _ => by simp
  | [], i + 1, h => by simp at h
  | x :: r, i + 1, h => by
    rw [List.flatMap_cons, show 4 * (i + 1) = 4 + 4 * i by omega, ← List.drop_drop, List.drop_left' (by simp), List.drop_succ_cons]
    exact drop_nums r i (by simpa using h)
theorem numAt_nums {l : List Nat} (hl : l.length ≤ 120) {i n : Nat} (h : l[i]? = some n) (hn : n < 4294967296) : numAt (numsPage l) i = n := by
  have hi := (List.getElem?_eq_some_iff.1 h).1
  have hlen := length_nums l
  unfold numAt numsPage Arr.text
  generalize hq : (l.flatMap fun n => be 4 n) = q at *
  show beVal (((q.take 480 ++ List.replicate (480 - q.length) 0).drop (4 * i)).take 4) = n
  rw [List.take_of_length_le (show q.length ≤ 480 by omega), List.drop_append_of_le_length (by omega), ← hq, drop_nums l i (by omega)]
  generalize List.replicate (480 - (l.flatMap fun n => be 4 n).length) (0 : UInt8) = z
  obtain ⟨t, ht⟩ : ∃ t, l.drop i = n :: t := ⟨l.drop (i + 1), by rw [← (List.getElem?_eq_some_iff.1 h).2]; exact List.drop_eq_getElem_cons hi⟩
  rw [ht, List.flatMap_cons, List.append_assoc, List.take_left' (by simp)]
  exact beVal_be 4 n hn
end Go.Cib
/-
  The check tells every burst: two sectors that differ in bits within 32 that follow one another have unlike checks.
-/
namespace Go.Cib
theorem xor_half (a b : Nat) : (a ^^^ b) / 2 = a / 2 ^^^ b / 2 := by
  have := Nat.shiftRight_xor_distrib (a := a) (b := b) (i := 1)
  simpa [Nat.shiftRight_eq_div_pow] using this
theorem xor_odd (a b : Nat) : (a ^^^ b) % 2 = (a % 2 + b % 2) % 2 := by
  have := Nat.xor_mod_two_pow (a := a) (b := b) (n := 1)
  simp only [Nat.pow_one] at this
  rw [this]
  have ha : a % 2 = 0 ∨ a % 2 = 1 := by omega
  have hb : b % 2 = 0 ∨ b % 2 = 1 := by omega
  rcases ha with ha | ha <;> rcases hb with hb | hb <;> rw [ha, hb] <;> rfl
theorem crcBit_xor (a b : Nat) : crcBit (a ^^^ b) = crcBit a ^^^ crcBit b := by
  unfold crcBit
  have hm := xor_odd a b
  have ha : a % 2 = 0 ∨ a % 2 = 1 := by omega
  have hb : b % 2 = 0 ∨ b % 2 = 1 := by omega
  have hx := xor_half a b
  rcases ha with ha | ha <;> rcases hb with hb | hb
  · rw [if_neg (by omega), if_neg (by omega), if_neg (by omega), hx]
  · rw [if_pos (by omega), if_neg (by omega), if_pos (by omega), hx, Nat.xor_assoc]
  · rw [if_pos (by omega), if_pos (by omega), if_neg (by omega), hx, Nat.xor_assoc, Nat.xor_assoc, Nat.xor_comm (b / 2)]
  · rw [if_neg (by omega), if_pos (by omega), if_pos (by omega), hx]
    rw [Nat.xor_assoc, Nat.xor_comm 2197175160 (b / 2 ^^^ 2197175160), Nat.xor_assoc, Nat.xor_self, Nat.xor_zero]
theorem crcBits_xor (a b : Nat) : ∀ k, crcBits k (a ^^^ b) = crcBits k a ^^^ crcBits k b
  | 0 => rfl
  | k + 1 => by simp only [crcBits, crcBits_xor a b k, crcBit_xor]
theorem crcBit_double (c : Nat) : crcBit (c * 2) = c := by
  unfold crcBit
  rw [if_neg (by omega)]
  omega
theorem crcBits_add (j : Nat) (c : Nat) : ∀ k, crcBits (j + k) c = crcBits k (crcBits j c)
  | 0 => rfl
  | k + 1 => by
    show crcBit (crcBits (j + k) c) = crcBit (crcBits k (crcBits j c))
    rw [crcBits_add j c k]
theorem crcBits_shift (c : Nat) : ∀ k, crcBits k (c * 2 ^ k) = c
  | 0 => by simp [crcBits]
  | k + 1 => by
    rw [Nat.add_comm k 1, crcBits_add 1]
    show crcBits k (crcBit (c * 2 ^ (1 + k))) = c
    rw [show c * 2 ^ (1 + k) = c * 2 ^ k * 2 by rw [Nat.add_comm 1 k, Nat.pow_succ, Nat.mul_assoc], crcBit_double, crcBits_shift c k]
theorem crcBit_ne {c : Nat} (h0 : c ≠ 0) (h : c < 4294967296) : crcBit c ≠ 0 := by
  unfold crcBit
  split
  · intro e
    have : c / 2 = 2197175160 := by
      have h2 := congrArg (fun x => x ^^^ 2197175160) e
      simp only [Nat.xor_assoc, Nat.xor_self, Nat.xor_zero, Nat.zero_xor] at h2
      exact h2
    omega
  · omega
theorem crcBits_ne {c : Nat} (h0 : c ≠ 0) (h : c < 4294967296) : ∀ k, crcBits k c ≠ 0
  | 0 => h0
  | k + 1 => crcBit_ne (crcBits_ne h0 h k) (crcBits_lt h k)
/-- The bits in which two sectors differ, outside of the check. -/
def difTo (s t : List UInt8) : Nat → Nat
  | 0 => 0
  | n + 1 => difTo s t n ^^^ (if n < 28 ∨ 32 ≤ n then ((s.getD n 0).toNat ^^^ (t.getD n 0).toNat) * 2 ^ (8 * n) else 0)
theorem crcBits_zero : ∀ k, crcBits k 0 = 0
  | 0 => rfl
  | k + 1 => by simp [crcBits, crcBits_zero k, crcBit]
theorem crcTo_dif (s t : List UInt8) : ∀ n, crcTo s n ^^^ crcTo t n = crcBits (8 * n) (difTo s t n)
  | 0 => by simp [crcTo, difTo, crcBits]
  | n + 1 => by
    have ih := crcTo_dif s t n
    rw [show 8 * (n + 1) = 8 * n + 8 by omega, crcBits_add, crcTo, crcTo, difTo, ← crcBits_xor]
    congr 1
    rw [crcBits_xor, ← ih]
    by_cases h : n < 28 ∨ 32 ≤ n
    · rw [if_pos h, if_pos h, if_pos h, crcBits_shift]
      rw [Nat.xor_assoc, Nat.xor_assoc]
      congr 1
      rw [← Nat.xor_assoc, Nat.xor_comm _ (crcTo t n), Nat.xor_assoc]
    · rw [if_neg h, if_neg h, if_neg h, crcBits_zero, Nat.xor_zero]
theorem xor_cancel {a b c : Nat} (h : a ^^^ b = a ^^^ c) : b = c := by
  have := congrArg (fun x => a ^^^ x) h
  simpa only [← Nat.xor_assoc, Nat.xor_self, Nat.zero_xor] using this
/-- A burst of up to 32 bits turns the check. -/
theorem crc_burst {s t : List UInt8} (hs : s.length = 512) (ht : t.length = 512) {b at_ : Nat} (hd : difTo s t 512 = b * 2 ^ at_) (h0 : b ≠ 0) (h : b < 4294967296) (ha : at_ ≤ 4096) : crcOf s ≠ crcOf t := by
  intro e
  unfold crcOf at e
  rw [hs, ht] at e
  have e2 := xor_cancel e
  have h1 := crcTo_dif s t 512
  rw [e2, Nat.xor_self, hd] at h1
  obtain ⟨k, hk⟩ := Nat.exists_eq_add_of_le ha
  rw [show 8 * 512 = at_ + k by omega, crcBits_add, crcBits_shift] at h1
  exact crcBits_ne h0 h k h1.symm
theorem crc_same {s t : List UInt8} (hs : s.length = t.length) (hd : ∀ i, i < 28 ∨ 32 ≤ i → s.getD i 0 = t.getD i 0) : crcOf s = crcOf t := by
  have key : ∀ n, crcTo s n = crcTo t n := by
    intro n
    induction n with
    | zero => rfl
    | succ n ih =>
      simp only [crcTo, ih]
      by_cases h : n < 28 ∨ 32 ≤ n
      · rw [if_pos h, if_pos h, hd n h]
      · rw [if_neg h, if_neg h]
  unfold crcOf
  rw [hs, key]
end Go.Cib
