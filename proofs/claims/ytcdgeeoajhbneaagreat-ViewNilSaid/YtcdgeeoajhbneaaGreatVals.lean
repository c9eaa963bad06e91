/-
  Small laws, for any program: values one behind the other; lists of one-cell values that grow.
-/
import Derived.Test.YtcdgeeoajhbneaaGreatBase
namespace Go.Cib
open Go Go.RowKit
/-- Values that lie one behind the other. -/
def ValsAt (w : World) (a : Option Addr) (vs : List Value) : Prop := ∀ (j : Nat) (v : Value), vs[j]? = some v → ∃ b o : Nat, a = some ⟨b, o, none⟩ ∧ w.cell? ⟨b, o + j, none⟩ = some v
theorem ValsAt.later {w w' : World} {a : Option Addr} {l : List Value} (h : ValsAt w a l) (ht : Tch [] w w') : ValsAt w' a l := by
  intro j n hj
  obtain ⟨b, o, e, hc⟩ := h j n hj
  exact ⟨b, o, e, cell_old ht hc⟩
/-- v is a slice of the call's own (blocks from B on) that holds l. -/
def OwnVals (w : World) (B : Nat) (e : TypeId) (v : Value) (l : List Value) : Prop := w.ownsRow B e 1 v l.length l
theorem ownVals_nil (w : World) (B : Nat) (e : TypeId) : OwnVals w B e (.slice none 0 0) [] := World.ownsRow_nil w B e 1
theorem OwnVals.shape {w : World} {B : Nat} {e : TypeId} {v : Value} {l : List Value} (h : OwnVals w B e v l) :
    (v = .slice none 0 0 ∧ l = []) ∨ ∃ g cap cur, v = .slice (some ⟨g, 0, none⟩) l.length cap ∧ B ≤ g ∧ w.heap[g]? = some (.cells cur e) ∧ l.length ≤ cap ∧ cap ≤ maxLen ∧ cur.size = cap ∧ cur.toList.take l.length = l := by
  obtain ⟨h1, h2⟩ := h
  rcases h2 with ⟨rfl, h3⟩ | ⟨g, cap, cur, rfl, h3, h4, h5, h6, h7, h8⟩
  · exact .inl ⟨rfl, List.eq_nil_of_length_eq_zero h3⟩
  · exact .inr ⟨g, cap, cur, rfl, h3, h4, h5, h6, by simpa using h7, by simpa using h8⟩
theorem OwnVals.kept {w w' : World} {B : Nat} {e : TypeId} {v : Value} {l : List Value} {S : List Nat} (h : OwnVals w B e v l) (ht : Tch S w w') (hn : ∀ g, v.ownBlock = some g → g ∉ S) : OwnVals w' B e v l := by
  obtain ⟨h1, h2⟩ := h
  refine ⟨h1, ?_⟩
  rcases h2 with h2 | ⟨g, cap, cur, rfl, h3, h4, h5⟩
  · exact .inl h2
  · exact .inr ⟨g, cap, cur, rfl, h3, ht.heap h4 (hn g rfl), h5⟩
theorem OwnVals.lt {w : World} {B : Nat} {e : TypeId} {v : Value} {l : List Value} (h : OwnVals w B e v l) : ∀ k ∈ v.ownBlock.toList, B ≤ k ∧ k < w.heap.size := by
  intro k hk
  rcases h.shape with ⟨rfl, _⟩ | ⟨g, cap, cur, rfl, hb, hg, _⟩
  · simp [Value.ownBlock] at hk
  · simp [Value.ownBlock] at hk
    subst hk
    exact ⟨hb, lt_of_heap hg⟩
/-- A list that is not empty lies in a block of its own. -/
theorem OwnVals.vals {w : World} {B : Nat} {e : TypeId} {v : Value} {l : List Value} (h : OwnVals w B e v l) : ∃ a cap, v = .slice a l.length cap ∧ ValsAt w a l ∧ ∀ b o, a = some ⟨b, o, none⟩ → B ≤ b := by
  rcases h.shape with ⟨rfl, rfl⟩ | ⟨g, cap, cur, rfl, hb, hg, hlc, _, hcs, htk⟩
  · exact ⟨none, 0, rfl, fun j v hj => by simp at hj, fun k o hk => by cases hk⟩
  · refine ⟨some ⟨g, 0, none⟩, cap, rfl, fun j v hj => ⟨g, 0, rfl, ?_⟩, fun k o hk => by cases hk; exact hb⟩
    have hjl := (List.getElem?_eq_some_iff.1 hj).1
    have h1 : (cur.toList.take l.length)[j]? = l[j]? := by rw [htk]
    rw [List.getElem?_take, if_pos hjl, Array.getElem?_toList, hj] at h1
    rw [Nat.zero_add, cell_of_row w g j _ _ _ hg]
    exact h1
/-- T is a type of slices of one-cell values of type e. -/
structure OneT (P : Program) (T e : TypeId) (z : Value) (by_ : Nat) : Prop where
  und : P.underlying T = some (.slice e)
  info : ∃ i, P.info? e = some i ∧ i.zero = some z ∧ i.size = 1 ∧ i.bytes = by_
  one : z.cells = #[z]
theorem OneT.of {P : Program} {T e : TypeId} {z : Value} {by_ : Nat} (h1 : P.underlying T = some (.slice e)) (h2 : (P.info? e).map (fun i => (i.zero, i.size, i.bytes)) = some (some z, 1, by_)) (h3 : z.cells = #[z]) : OneT P T e z by_ := by
  obtain ⟨i, hi, hi2⟩ := Option.map_eq_some_iff.1 h2
  simp only [Prod.mk.injEq] at hi2
  exact ⟨h1, ⟨i, hi, hi2⟩, h3⟩
section
variable {P : Program} {T e : TypeId} {ops : Array Oper} {rest : List Oper} {a : Act} {w : World} {Q : Exit → Act → World → Prop} {dst : Option Tmp} {ty : TypeId} {pos : String} {af : Array Edge} {x y : Operand}
/-- 'append(l, ..)' of a row of values in memory. -/
theorem wc_append_vals {z : Value} {by_ : Nat} (hT : OneT P T e z by_) (hby : by_ ≤ 16) {B : Nat} {v : Value} {l : List Value} (h : OwnVals w B e v l) (hB : B ≤ w.heap.size) {m : List Value} (hl : l.length + m.length ≤ 1000000) {ar : Array Operand} {ts : Array TypeId} (har : ar = #[x, y]) (hts : ts = #[T, T]) (hx : a.eval x = v)
    {ad : Addr} {cap : Nat} (hy : a.eval y = .slice (some ad) m.length cap) (hg : ValsAt w (some ad) m) (hone : ∀ u ∈ m, u.oneCell' = true)
    (h' : ∀ v' w', OwnVals w' B e v' (l ++ m) → Tch v.ownBlock.toList w w' → wpList P ops Q rest (a.put dst v') w') : wpList P ops Q (⟨dst, .call { callee := .builtin .append, args := ar, argTypes := ts }, ty, pos, af, none⟩ :: rest) a w := by
  subst har hts
  obtain ⟨i, h1, h2, h3, h4⟩ := hT.info
  refine wpList_append_own w rfl x y T rfl B e i z 1 by_ hT.und h1 h2 h3 h4 (by rw [hT.one]; rfl) (by decide) v l.length l hx h ad m.length cap m hy (by omega) ?_ hone ?_ ?_ hB ?_
  · intro j u hj
    obtain ⟨b, o, e1, hc⟩ := hg j u hj
    cases e1
    rw [add_mk]; exact hc
  · unfold maxLen; omega
  · have := Nat.mul_le_mul_left (l.length + m.length) hby
    omega
  · intro v' w' hown hgr _
    refine h' v' w' ?_ (Tch.of_grown hgr (fun k hk => by rw [hk]; simp))
    unfold OwnVals
    rw [List.length_append]
    exact hown
end
/-- Where a value of the list lies. -/
theorem OwnVals.at_ {w : World} {B : Nat} {e : TypeId} {v : Value} {l : List Value} (h : OwnVals w B e v l) {j : Nat} {x : Value} (hj : l[j]? = some x) : ∃ g cap, v = .slice (some ⟨g, 0, none⟩) l.length cap ∧ B ≤ g ∧ w.cell? ⟨g, j, none⟩ = some x ∧ w.frozen? ⟨g, j, none⟩ = false := by
  have hjl := (List.getElem?_eq_some_iff.1 hj).1
  rcases h.shape with ⟨_, rfl⟩ | ⟨g, cap, cur, rfl, hb, hg, hlc, _, hcs, htk⟩
  · simp at hj
  · refine ⟨g, cap, rfl, hb, ?_, frozen_of_row w g j _ _ hg⟩
    have h1 : (cur.toList.take l.length)[j]? = l[j]? := by rw [htk]
    rw [List.getElem?_take, if_pos hjl, Array.getElem?_toList, hj] at h1
    rw [cell_of_row w g j _ _ _ hg]
    exact h1
theorem OwnVals.cap_ {w : World} {B : Nat} {e : TypeId} {v : Value} {l : List Value} (h : OwnVals w B e v l) : ∃ a cap, v = .slice a l.length cap ∧ l.length ≤ cap ∧ cap ≤ maxLen := by
  rcases h.shape with ⟨rfl, rfl⟩ | ⟨g, cap, cur, rfl, hb, hg, hlc, hm, hcs, htk⟩
  · exact ⟨none, 0, rfl, Nat.le_refl _, by unfold maxLen; omega⟩
  · exact ⟨_, _, rfl, hlc, hm⟩
/-- A value is written in place. -/
theorem OwnVals.set {w : World} {B : Nat} {e : TypeId} {g cap : Nat} {l : List Value} {n : Nat} (h : OwnVals w B e (.slice (some ⟨g, 0, none⟩) n cap) l) {j : Nat} (x : Value) : OwnVals (w.setCell ⟨g, j, none⟩ x) B e (.slice (some ⟨g, 0, none⟩) n cap) (l.set j x) := by
  obtain ⟨h1, h2⟩ := h
  refine ⟨by simp, ?_⟩
  rcases h2 with ⟨h2, _⟩ | ⟨g', cap', cur, e', h3, h4, h5, h6, h7, h8⟩
  · cases h2
  · cases e'
    refine .inr ⟨g, cap, cur.setIfInBounds j x, by simp, h3, heap_setCell_cells h4 _ _, by simpa using h5, h6, by simpa using h7, ?_⟩
    have h8' : cur.toList.take l.length = l := by simpa using h8
    rw [Array.toList_setIfInBounds, List.length_set, Nat.mul_one]
    rw [List.take_set, h8']
end Go.Cib
