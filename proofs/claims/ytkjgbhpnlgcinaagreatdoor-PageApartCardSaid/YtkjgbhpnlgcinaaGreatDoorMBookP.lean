/-
  Keys with values, rising by key, plain: the document's Book as a list of pairs; no Go in it.
-/
import Derived.Sort.Walk0
namespace Go.Cib
open Go

abbrev Kv := ByteArray × ByteArray
/-- A text's bytes. -/
abbrev tl (s : ByteArray) : List UInt8 := s.data.toList
theorem tl_inj {a b : ByteArray} (h : tl a = tl b) : a = b := by
  cases a with | mk x => cases b with | mk y => exact congrArg ByteArray.mk (Array.toList_inj.1 h)
theorem tl_append (a b : ByteArray) : tl (a ++ b) = tl a ++ tl b := by simp [tl]
theorem tl_size (a : ByteArray) : (tl a).length = a.size := rfl
def blt (a b : ByteArray) : Bool := Op.bytesLess (tl a) (tl b)
theorem blt_iff {a b : ByteArray} : blt a b = true ↔ tl a < tl b := by unfold blt; rw [Go.Proofs.bytesLess_eq]; simp
theorem blt_irrefl (a : ByteArray) : blt a a = false := by
  cases h : blt a a with
  | false => rfl
  | true => exact absurd (blt_iff.1 h) (List.lt_irrefl _)
theorem blt_trans {a b c : ByteArray} (h1 : blt a b = true) (h2 : blt b c = true) : blt a c = true := blt_iff.2 (List.lt_trans (blt_iff.1 h1) (blt_iff.1 h2))
theorem blt_total {a b : ByteArray} (h : a ≠ b) (h1 : blt a b = false) : blt b a = true := by
  rw [blt_iff]
  have h1' : ¬ tl a < tl b := fun e => by rw [blt_iff.2 e] at h1; cases h1
  have h2 : tl b ≤ tl a := List.not_lt.1 h1'
  rcases List.le_iff_lt_or_eq.1 h2 with h3 | h3
  · exact h3
  · exact absurd (tl_inj h3).symm h
theorem blt_asymm {a b : ByteArray} (h : blt a b = true) : blt b a = false := by
  cases h2 : blt b a with
  | false => rfl
  | true => have := blt_trans h h2; rw [blt_irrefl] at this; cases this
theorem blt_ne {a b : ByteArray} (h : blt a b = true) : a ≠ b := fun e => by rw [e, blt_irrefl] at h; cases h

def Rising (B : List Kv) : Prop := B.Pairwise fun x y => blt x.1 y.1 = true
/-- How many keys stand ahead of a key. -/
def place : List Kv → ByteArray → Nat
  | [], _ => 0
  | e :: r, k => if blt e.1 k = true then place r k + 1 else 0
def keyAt (B : List Kv) (i : Nat) : Option ByteArray := (B[i]?).map (·.1)
def is (B : List Kv) (k : ByteArray) : Bool := decide (keyAt B (place B k) = some k)
def get (B : List Kv) (k : ByteArray) : Option ByteArray := if is B k = true then (B[place B k]?).map (·.2) else none
def put (B : List Kv) (k v : ByteArray) : List Kv := if is B k = true then B.set (place B k) (k, v) else B.take (place B k) ++ (k, v) :: B.drop (place B k)
def del (B : List Kv) (k : ByteArray) : List Kv := if is B k = true then B.take (place B k) ++ B.drop (place B k + 1) else B

theorem place_le : ∀ (B : List Kv) (k : ByteArray), place B k ≤ B.length
  | [], _ => Nat.le_refl _
  | e :: r, k => by unfold place; split <;> simp [place_le r k]
theorem place_lt : ∀ {B : List Kv} {k : ByteArray} {i : Nat} {e : Kv}, i < place B k → B[i]? = some e → blt e.1 k = true
  | [], _, i, e, h, _ => by simp [place] at h
  | a :: r, k, i, e, h, he => by
    unfold place at h
    split at h
    · rename_i ha
      cases i with
      | zero => simp at he; subst he; exact ha
      | succ i => exact place_lt (B := r) (i := i) (by omega) (by simpa using he)
    · omega
theorem place_at : ∀ {B : List Kv} {k : ByteArray} {e : Kv}, B[place B k]? = some e → blt e.1 k = false
  | [], _, e, h => by simp at h
  | a :: r, k, e, h => by
    unfold place at h
    split at h
    · exact place_at (B := r) (by simpa using h)
    · rename_i ha
      simp at h; subst h; simpa using ha
theorem Rising.ge {B : List Kv} (hB : Rising B) {k : ByteArray} {i : Nat} {e : Kv} (hi : place B k ≤ i) (he : B[i]? = some e) : blt e.1 k = false := by
  rcases Nat.eq_or_lt_of_le hi with h | h
  · subst h; exact place_at he
  · have hl := (List.getElem?_eq_some_iff.1 he).1
    have hx : B[place B k]? = some (B[place B k]'(by omega)) := List.getElem?_eq_getElem _
    have h1 := place_at hx
    have h2 : blt (B[place B k]'(by omega)).1 e.1 = true := by
      have := List.pairwise_iff_getElem.1 hB (place B k) i (by omega) hl h
      rwa [(List.getElem?_eq_some_iff.1 he).2] at this
    cases h3 : blt e.1 k with
    | false => rfl
    | true => have := blt_trans h2 h3; rw [h1] at this; cases this
theorem is_iff {B : List Kv} {k : ByteArray} : is B k = true ↔ ∃ v, B[place B k]? = some (k, v) := by
  unfold is keyAt
  rw [decide_eq_true_eq, Option.map_eq_some_iff]
  constructor
  · rintro ⟨e, he, rfl⟩; exact ⟨e.2, he⟩
  · rintro ⟨v, he⟩; exact ⟨_, he, rfl⟩
theorem is_mem {B : List Kv} (hB : Rising B) {k : ByteArray} : is B k = true ↔ ∃ v, (k, v) ∈ B := by
  rw [is_iff]
  constructor
  · rintro ⟨v, h⟩; exact ⟨v, List.mem_of_getElem? h⟩
  · rintro ⟨v, h⟩
    obtain ⟨i, hi⟩ := List.mem_iff_getElem?.1 h
    refine ⟨v, ?_⟩
    have e : i = place B k := by
      rcases Nat.lt_trichotomy i (place B k) with h1 | h1 | h1
      · have := place_lt h1 hi; rw [blt_irrefl] at this; cases this
      · exact h1
      · have hl := (List.getElem?_eq_some_iff.1 hi).1
        have hx : B[place B k]? = some (B[place B k]'(by omega)) := List.getElem?_eq_getElem _
        have h2 := place_at hx
        have h3 := List.pairwise_iff_getElem.1 hB (place B k) i (by omega) hl h1
        rw [(List.getElem?_eq_some_iff.1 hi).2] at h3
        rw [h2] at h3; cases h3
    rw [← e]; exact hi
theorem get_mem {B : List Kv} (hB : Rising B) {k v : ByteArray} : get B k = some v ↔ (k, v) ∈ B := by
  unfold get
  constructor
  · intro h
    split at h
    · rename_i hi
      obtain ⟨u, hu⟩ := is_iff.1 hi
      rw [hu] at h
      simp at h; subst h
      exact List.mem_of_getElem? hu
    · cases h
  · intro h
    have hi := (is_mem hB).2 ⟨v, h⟩
    rw [if_pos hi]
    obtain ⟨u, hu⟩ := is_iff.1 hi
    rw [hu]
    simp only [Option.map_some, Option.some.injEq]
    have hm := List.mem_of_getElem? hu
    obtain ⟨i, hi1⟩ := List.mem_iff_getElem?.1 h
    obtain ⟨j, hj1⟩ := List.mem_iff_getElem?.1 hm
    have hil := (List.getElem?_eq_some_iff.1 hi1)
    have hjl := (List.getElem?_eq_some_iff.1 hj1)
    rcases Nat.lt_trichotomy i j with h1 | h1 | h1
    · have := List.pairwise_iff_getElem.1 hB i j hil.1 hjl.1 h1
      rw [hil.2, hjl.2, blt_irrefl] at this; cases this
    · subst h1; rw [hi1] at hj1; simp at hj1; exact hj1.symm
    · have := List.pairwise_iff_getElem.1 hB j i hjl.1 hil.1 h1
      rw [hil.2, hjl.2, blt_irrefl] at this; cases this
theorem is_get {B : List Kv} {k : ByteArray} : is B k = (get B k).isSome := by
  unfold get
  cases h : is B k with
  | false => rfl
  | true =>
    obtain ⟨v, hv⟩ := is_iff.1 h
    simp [hv]
theorem mem_put {B : List Kv} (hB : Rising B) {k v : ByteArray} {e : Kv} : e ∈ put B k v ↔ e = (k, v) ∨ (e ∈ B ∧ e.1 ≠ k) := by
  have hne : ∀ i x, B[i]? = some x → (i = place B k ∧ x.1 = k) ∨ x.1 ≠ k := fun i x hx => by
    by_cases hk : x.1 = k
    · left
      refine ⟨?_, hk⟩
      have hi : is B k = true := (is_mem hB).2 ⟨x.2, hk ▸ List.mem_of_getElem? hx⟩
      obtain ⟨u, hu⟩ := is_iff.1 hi
      have hxl := List.getElem?_eq_some_iff.1 hx
      have hul := List.getElem?_eq_some_iff.1 hu
      rcases Nat.lt_trichotomy i (place B k) with h1 | h1 | h1
      · have := List.pairwise_iff_getElem.1 hB _ _ hxl.1 hul.1 h1
        rw [hxl.2, hul.2, hk, blt_irrefl] at this; cases this
      · exact h1
      · have := List.pairwise_iff_getElem.1 hB _ _ hul.1 hxl.1 h1
        rw [hxl.2, hul.2, hk, blt_irrefl] at this; cases this
    · exact .inr hk
  unfold put
  split
  · rename_i hi
    obtain ⟨u, hu⟩ := is_iff.1 hi
    have hlt := (List.getElem?_eq_some_iff.1 hu).1
    rw [List.mem_iff_getElem?]
    constructor
    · rintro ⟨i, h⟩
      rw [List.getElem?_set] at h
      split at h
      · rename_i e1
        first
          | exact .inl (Option.some.inj h).symm
          | (rw [if_pos (e1 ▸ hlt)] at h; exact .inl (Option.some.inj h).symm)
      · rename_i e1
        right
        refine ⟨List.mem_of_getElem? h, ?_⟩
        rcases hne i e h with ⟨h1, _⟩ | h1
        · exact absurd h1.symm e1
        · exact h1
    · rintro (rfl | ⟨h1, h2⟩)
      · exact ⟨place B k, by rw [List.getElem?_set, if_pos rfl, if_pos hlt]⟩
      · obtain ⟨i, hi2⟩ := List.mem_iff_getElem?.1 h1
        refine ⟨i, ?_⟩
        rw [List.getElem?_set, if_neg]
        · exact hi2
        · rintro rfl
          rw [hu] at hi2
          exact h2 (by rw [← Option.some.inj hi2])
  · rename_i hi
    have hno : ∀ x ∈ B, x.1 ≠ k := fun x hx e => hi ((is_mem hB).2 ⟨x.2, by rw [← e]; exact hx⟩)
    rw [List.mem_append, List.mem_cons]
    have hB2 : e ∈ B ↔ e ∈ B.take (place B k) ∨ e ∈ B.drop (place B k) := by
      rw [← List.mem_append, List.take_append_drop]
    constructor
    · rintro (h | h | h)
      · exact .inr ⟨hB2.2 (.inl h), hno _ (hB2.2 (.inl h))⟩
      · exact .inl h
      · exact .inr ⟨hB2.2 (.inr h), hno _ (hB2.2 (.inr h))⟩
    · rintro (h | ⟨h, _⟩)
      · exact .inr (.inl h)
      · rcases hB2.1 h with h | h
        · exact .inl h
        · exact .inr (.inr h)
theorem mem_del {B : List Kv} (hB : Rising B) {k : ByteArray} {e : Kv} : e ∈ del B k ↔ e ∈ B ∧ e.1 ≠ k := by
  unfold del
  split
  · rename_i hi
    obtain ⟨u, hu⟩ := is_iff.1 hi
    have hlt := (List.getElem?_eq_some_iff.1 hu)
    generalize place B k = n at *
    have hsp : B = B.take n ++ (k, u) :: B.drop (n + 1) := by
      have h1 : B.drop n = (k, u) :: B.drop (n + 1) := by rw [List.drop_eq_getElem_cons hlt.1, hlt.2]
      rw [← h1, List.take_append_drop]
    have hp : (B.take n ++ (k, u) :: B.drop (n + 1)).Pairwise fun x y => blt x.1 y.1 = true := by rw [← hsp]; exact hB
    rw [List.pairwise_append, List.pairwise_cons] at hp
    obtain ⟨_, ⟨p2, _⟩, p3⟩ := hp
    have hmB : e ∈ B ↔ e ∈ B.take n ∨ e = (k, u) ∨ e ∈ B.drop (n + 1) := by
      conv => lhs; rw [hsp]
      rw [List.mem_append, List.mem_cons]
    rw [hmB, List.mem_append]
    constructor
    · rintro (h | h)
      · exact ⟨.inl h, fun e1 => by have := p3 _ h (k, u) List.mem_cons_self; rw [e1, blt_irrefl] at this; cases this⟩
      · exact ⟨.inr (.inr h), fun e1 => by have := p2 _ h; rw [e1, blt_irrefl] at this; cases this⟩
    · rintro ⟨h | h | h, h2⟩
      · exact .inl h
      · rw [h] at h2; exact absurd rfl h2
      · exact .inr h
  · rename_i hi
    refine ⟨fun h => ⟨h, fun e1 => hi ((is_mem hB).2 ⟨e.2, by rw [← e1]; exact h⟩)⟩, fun h => h.1⟩
theorem Rising.take {B : List Kv} (h : Rising B) (n : Nat) : Rising (B.take n) := List.Pairwise.sublist (List.take_sublist n B) h
theorem Rising.drop {B : List Kv} (h : Rising B) (n : Nat) : Rising (B.drop n) := List.Pairwise.sublist (List.drop_sublist n B) h
theorem Rising.put {B : List Kv} (hB : Rising B) (k v : ByteArray) : Rising (put B k v) := by
  unfold Cib.put
  split
  · rename_i hi
    obtain ⟨u, hu⟩ := is_iff.1 hi
    unfold Rising
    rw [List.pairwise_iff_getElem]
    intro i j h1 h2 h3
    simp only [List.length_set] at h1 h2
    have hlt := (List.getElem?_eq_some_iff.1 hu)
    have key : ∀ m (hm : m < B.length), ((B.set (place B k) (k, v))[m]'(by simpa using hm)).1 = B[m].1 := fun m hm => by
      rw [List.getElem_set]
      split
      · rename_i e1; subst e1; rw [hlt.2]
      · rfl
    rw [key i h1, key j h2]
    exact List.pairwise_iff_getElem.1 hB i j h1 h2 h3
  · rename_i hi
    unfold Rising
    rw [List.pairwise_append, List.pairwise_cons]
    refine ⟨hB.take _, ⟨fun e he => ?_, hB.drop _⟩, fun a ha b hb => ?_⟩
    · obtain ⟨i, hi1⟩ := List.mem_iff_getElem?.1 he
      rw [List.getElem?_drop] at hi1
      have h1 := hB.ge (Nat.le_add_right _ _) hi1
      exact blt_total (fun e1 => hi ((is_mem hB).2 ⟨e.2, (show e.1 = k from e1) ▸ List.mem_of_getElem? hi1⟩)) h1
    · have h1 : blt a.1 k = true := by
        obtain ⟨i, hi1⟩ := List.mem_iff_getElem?.1 ha
        rw [List.getElem?_take] at hi1
        split at hi1
        · rename_i hlt; exact place_lt hlt hi1
        · cases hi1
      rcases List.mem_cons.1 hb with rfl | hb
      · exact h1
      · obtain ⟨i, hi1⟩ := List.mem_iff_getElem?.1 hb
        rw [List.getElem?_drop] at hi1
        have h2 := hB.ge (Nat.le_add_right _ _) hi1
        exact blt_trans h1 (blt_total (fun e1 => hi ((is_mem hB).2 ⟨b.2, by rw [← e1]; exact List.mem_of_getElem? hi1⟩)) h2)
theorem Rising.del {B : List Kv} (hB : Rising B) (k : ByteArray) : Rising (del B k) := by
  unfold Cib.del
  split
  · refine List.pairwise_append.2 ⟨hB.take _, hB.drop _, fun a ha b hb => ?_⟩
    obtain ⟨i, hi1⟩ := List.mem_iff_getElem?.1 ha
    obtain ⟨j, hj1⟩ := List.mem_iff_getElem?.1 hb
    rw [List.getElem?_take] at hi1
    rw [List.getElem?_drop] at hj1
    split at hi1
    · rename_i hlt
      have h1 := List.getElem?_eq_some_iff.1 hi1
      have h2 := List.getElem?_eq_some_iff.1 hj1
      have := List.pairwise_iff_getElem.1 hB i _ h1.1 h2.1 (by omega)
      rwa [h1.2, h2.2] at this
    · cases hi1
  · exact hB
theorem get_put {B : List Kv} (hB : Rising B) (k v j : ByteArray) : get (put B k v) j = if j = k then some v else get B j := by
  apply Option.ext
  intro u
  rw [get_mem (hB.put k v), mem_put hB]
  by_cases h : j = k
  · subst h
    simp only [if_true, Option.some.injEq, ne_eq, not_true, and_false, or_false, Prod.mk.injEq, true_and]
    exact eq_comm
  · rw [if_neg h, get_mem hB]
    simp [h]
theorem get_del {B : List Kv} (hB : Rising B) (k j : ByteArray) : get (del B k) j = if j = k then none else get B j := by
  apply Option.ext
  intro u
  rw [get_mem (hB.del k), mem_del hB]
  by_cases h : j = k
  · subst h; simp
  · rw [if_neg h, get_mem hB]; simp [h]
/-- Does a text begin with another? -/
def begins (s p : ByteArray) : Bool := (tl p).isPrefixOf (tl s)
def listed (B : List Kv) (pre after : ByteArray) (most : Nat) : List ByteArray := ((B.map (·.1)).filter fun k => begins k pre && blt after k).take most
end Go.Cib
