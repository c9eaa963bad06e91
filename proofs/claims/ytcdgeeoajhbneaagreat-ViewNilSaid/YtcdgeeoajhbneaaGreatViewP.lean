/-
  Views of a book, plain; no Go in it.
-/
import Derived.Test.YtcdgeeoajhbneaaGreatBookP
namespace Go.Cib
open Go

/-- What is listed, step by step. -/
theorem take_filter_step {α : Type} (ks : List α) (P : α → Bool) (m j : Nat) (k : α) (hk : ks[j]? = some k) :
    ((ks.take (j + 1)).filter P).take m = if P k = true ∧ (((ks.take j).filter P).take m).length < m then ((ks.take j).filter P).take m ++ [k] else ((ks.take j).filter P).take m := by
  rw [List.take_add_one, hk, List.filter_append]
  generalize (ks.take j).filter P = l
  simp only [Option.toList_some]
  cases hp : P k with
  | false => simp [List.filter, hp]
  | true =>
    have e : List.filter P [k] = [k] := by simp [List.filter, hp]
    rw [e]
    by_cases h : l.length < m
    · rw [List.take_of_length_le (by simp; omega), List.take_of_length_le (by omega), if_pos ⟨rfl, h⟩]
    · rw [List.take_append_of_le_length (by omega), if_neg]
      rintro ⟨_, h2⟩
      rw [List.length_take] at h2
      omega
/-- Once there are as many as are asked for, no more come. -/
theorem take_filter_full {α : Type} (ks : List α) (P : α → Bool) (m j : Nat) (h : m ≤ (((ks.take j).filter P).take m).length) : ((ks.take j).filter P).take m = (ks.filter P).take m := by
  have h2 : m ≤ ((ks.take j).filter P).length := by rw [List.length_take] at h; omega
  conv => rhs; rw [← List.take_append_drop j ks, List.filter_append]
  rw [List.take_append_of_le_length h2]
theorem bytesLess_append : ∀ (p a b : List UInt8), Op.bytesLess (p ++ a) (p ++ b) = Op.bytesLess a b
  | [], a, b => rfl
  | x :: p, a, b => by
    show (decide (x < x) || (x == x && Op.bytesLess (p ++ a) (p ++ b))) = _
    rw [bytesLess_append p a b]
    simp
theorem bytesLess_nil : ∀ (a : List UInt8), Op.bytesLess a [] = false
  | [] => rfl
  | _ :: _ => rfl
/-- A text without its first n bytes. -/
def dropT (n : Nat) (s : ByteArray) : ByteArray := s.extract n s.size
theorem tl_dropT (n : Nat) (s : ByteArray) : tl (dropT n s) = (tl s).drop n := by
  unfold dropT tl
  rw [ByteArray.data_extract, Array.toList_extract, List.extract_eq_take_drop]
  exact List.take_of_length_le (by rw [List.length_drop, Array.length_toList]; exact Nat.le_refl _)
theorem begins_append {s p q : ByteArray} (h : begins s (p ++ q) = true) : begins s p = true := by
  unfold begins at *
  rw [List.isPrefixOf_iff_prefix] at *
  rw [tl_append] at h
  exact (List.prefix_append _ _).trans h
theorem begins_split {s p : ByteArray} (h : begins s p = true) : tl s = tl p ++ tl (dropT p.size s) := by
  unfold begins at h
  rw [List.isPrefixOf_iff_prefix] at h
  obtain ⟨r, hr⟩ := h
  rw [tl_dropT, ← hr, ← tl_size p, List.drop_left]
/-- What stands behind a prefix. -/
theorem blt_behind {k p a : ByteArray} (h : begins k p = true) : blt (p ++ a) k = blt a (dropT p.size k) := by
  unfold blt
  rw [begins_split h, tl_append, bytesLess_append]
theorem size_of_listed {k p pre a : ByteArray} (h : (begins k (p ++ pre) && blt (p ++ a) k) = true) : 0 < (dropT p.size k).size := by
  rw [Bool.and_eq_true] at h
  have hb := begins_append h.1
  have h2 := h.2
  rw [blt_behind hb] at h2
  rcases Nat.eq_zero_or_pos (dropT p.size k).size with e | e
  · exfalso
    have : tl (dropT p.size k) = [] := List.eq_nil_of_length_eq_zero e
    unfold blt at h2
    rw [this, bytesLess_nil] at h2
    cases h2
  · exact e
/-- The keys of a view. -/
def vlist (B : List Kv) (p pre after : ByteArray) (most : Nat) : List ByteArray := (listed B (p ++ pre) (p ++ after) most).map (dropT p.size)
/-- The same, as the document says it. -/
theorem vlist_doc (B : List Kv) (p pre after : ByteArray) (most : Nat) :
    vlist B p pre after most = (((B.map (·.1)).filter fun k => begins k (p ++ pre) && blt after (dropT p.size k)).take most).map (dropT p.size) := by
  unfold vlist listed
  congr 2
  apply List.filter_congr
  intro k _
  cases h : begins k (p ++ pre) with
  | false => rfl
  | true => rw [Bool.true_and, Bool.true_and, blt_behind (begins_append h)]
theorem vlist_pos {B : List Kv} {p pre after : ByteArray} {most : Nat} : ∀ k ∈ vlist B p pre after most, 0 < k.size := by
  intro k hk
  unfold vlist listed at hk
  obtain ⟨x, hx, rfl⟩ := List.mem_map.1 hk
  have := (List.mem_filter.1 (List.mem_of_mem_take hx)).2
  exact size_of_listed this
theorem length_listed (B : List Kv) (pre after : ByteArray) (most : Nat) : (listed B pre after most).length ≤ B.length := by
  unfold listed
  rw [List.length_take]
  have := List.length_filter_le (fun k => begins k pre && blt after k) (B.map (·.1))
  rw [List.length_map] at this
  omega
theorem length_put (B : List Kv) (k v : ByteArray) : (put B k v).length ≤ B.length + 1 := by
  unfold put
  split
  · simp
  · have := place_le B k
    simp; omega
theorem length_del (B : List Kv) (k : ByteArray) : (del B k).length ≤ B.length := by
  unfold del
  split
  · have := place_le B k
    simp; omega
  · exact Nat.le_refl _
/-- A view's key. -/
def vkey (p key : ByteArray) : Bool := decide (1 ≤ key.size ∧ p.size + key.size ≤ 198)
def vget (B : List Kv) (p key : ByteArray) : ByteArray × Bool × Int := if vkey p key = true then ((get B (p ++ key)).getD ByteArray.empty, (get B (p ++ key)).isSome, 0) else (ByteArray.empty, false, 2)
def vput (B : List Kv) (p key v : ByteArray) : Int × List Kv := if vkey p key = true then (if 3968 < v.size then (3, B) else (0, put B (p ++ key) v)) else (2, B)
def vdel (B : List Kv) (p key : ByteArray) : Bool × Int × List Kv := if vkey p key = true then (is B (p ++ key), 0, del B (p ++ key)) else (false, 2, B)
def vclear (B : List Kv) (p : ByteArray) : List ByteArray → List Kv
  | [] => B
  | k :: ks => vclear (del B (p ++ k)) p ks
theorem vclear_snoc (p : ByteArray) (k : ByteArray) : ∀ (ks : List ByteArray) (B : List Kv), vclear B p (ks ++ [k]) = del (vclear B p ks) (p ++ k)
  | [], _ => rfl
  | x :: ks, B => vclear_snoc p k ks (del B (p ++ x))
theorem vclear_rising (p : ByteArray) : ∀ (ks : List ByteArray) {B : List Kv}, Rising B → Rising (vclear B p ks)
  | [], _, h => h
  | _ :: ks, _, h => vclear_rising p ks (h.del _)
theorem vclear_mem (p : ByteArray) {e : Kv} : ∀ (ks : List ByteArray) {B : List Kv}, Rising B → e ∈ vclear B p ks → e ∈ B
  | [], _, _, h => h
  | _ :: ks, _, hB, h => ((mem_del hB).1 (vclear_mem p ks (hB.del _) h)).1
theorem vclear_len (p : ByteArray) : ∀ (ks : List ByteArray) (B : List Kv), (vclear B p ks).length ≤ B.length
  | [], _ => Nat.le_refl _
  | x :: ks, B => Nat.le_trans (vclear_len p ks (del B (p ++ x))) (length_del B _)
/-- What is listed stands in the book. -/
theorem vlist_key {B : List Kv} (hsz : ∀ e ∈ B, e.1.size ≤ 198) {p pre after : ByteArray} {m : Nat} : ∀ k ∈ vlist B p pre after m, vkey p k = true := by
  intro k hk
  have hpos := vlist_pos k hk
  unfold vlist listed at hk
  obtain ⟨x, hx, rfl⟩ := List.mem_map.1 hk
  obtain ⟨h1, h2⟩ := List.mem_filter.1 (List.mem_of_mem_take hx)
  obtain ⟨e, he, rfl⟩ := List.mem_map.1 h1
  rw [Bool.and_eq_true] at h2
  have hb := begins_split (begins_append h2.1)
  have hl := congrArg List.length hb
  rw [List.length_append, tl_size, tl_size, tl_size] at hl
  have := hsz e he
  unfold vkey
  exact decide_eq_true ⟨hpos, by omega⟩
end Go.Cib
