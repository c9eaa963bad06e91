/-
  Small laws, for any program: lists of numbers that grow.
-/
import Derived.Test.YthbaipljlbddcaaGreatMem
namespace Go.Cib
open Go Go.RowKit

/-! ### Lists of numbers that grow -/
/-- v is a slice of the call's own (blocks from B on) that holds l. -/
def OwnInts (w : World) (B : Nat) (e : TypeId) (v : Value) (l : List Int) : Prop := w.ownsRow B e 1 v l.length (l.map (Value.int .i64))
theorem ownInts_nil (w : World) (B : Nat) (e : TypeId) : OwnInts w B e (.slice none 0 0) [] := World.ownsRow_nil w B e 1
theorem OwnInts.shape {w : World} {B : Nat} {e : TypeId} {v : Value} {l : List Int} (h : OwnInts w B e v l) :
    (v = .slice none 0 0 ∧ l = []) ∨ ∃ g cap cur, v = .slice (some ⟨g, 0, none⟩) l.length cap ∧ B ≤ g ∧ w.heap[g]? = some (.cells cur e) ∧ l.length ≤ cap ∧ cap ≤ maxLen ∧ cur.size = cap ∧ cur.toList.take l.length = l.map (Value.int .i64) := by
  obtain ⟨h1, h2⟩ := h
  rcases h2 with ⟨rfl, h3⟩ | ⟨g, cap, cur, rfl, h3, h4, h5, h6, h7, h8⟩
  · exact .inl ⟨rfl, List.eq_nil_of_length_eq_zero h3⟩
  · exact .inr ⟨g, cap, cur, rfl, h3, h4, h5, h6, by simpa using h7, by simpa using h8⟩
theorem OwnInts.kept {w w' : World} {B : Nat} {e : TypeId} {v : Value} {l : List Int} {S : List Nat} (h : OwnInts w B e v l) (ht : Tch S w w') (hn : ∀ g, v.ownBlock = some g → g ∉ S) : OwnInts w' B e v l := by
  obtain ⟨h1, h2⟩ := h
  refine ⟨h1, ?_⟩
  rcases h2 with h2 | ⟨g, cap, cur, rfl, h3, h4, h5⟩
  · exact .inl h2
  · exact .inr ⟨g, cap, cur, rfl, h3, ht.heap h4 (hn g rfl), h5⟩
/-- A block that is no row of cells is not the slice's own. -/
theorem OwnInts.ne {w : World} {B : Nat} {e : TypeId} {v : Value} {l : List Int} (h : OwnInts w B e v l) {R : Nat} {o : Obj} (hR : w.heap[R]? = some o) (ho : ∀ c e' fr, o ≠ .cells c e' fr) : R ∉ v.ownBlock.toList := by
  intro hm
  rcases h.shape with ⟨rfl, _⟩ | ⟨g, cap, cur, rfl, _, hg, _⟩
  · simp [Value.ownBlock] at hm
  · simp [Value.ownBlock] at hm
    subst hm
    rw [hg] at hR
    cases hR
    exact ho _ _ _ rfl
theorem OwnInts.lt {w : World} {B : Nat} {e : TypeId} {v : Value} {l : List Int} (h : OwnInts w B e v l) : ∀ k ∈ v.ownBlock.toList, B ≤ k ∧ k < w.heap.size := by
  intro k hk
  rcases h.shape with ⟨rfl, _⟩ | ⟨g, cap, cur, rfl, hb, hg, _⟩
  · simp [Value.ownBlock] at hk
  · simp [Value.ownBlock] at hk
    subst hk
    exact ⟨hb, lt_of_heap hg⟩
/-- T is a type of slices of int. -/
structure IntsT (P : Program) (T e : TypeId) : Prop where
  und : P.underlying T = some (.slice e)
  info : ∃ i, P.info? e = some i ∧ i.zero = some (.int .i64 0) ∧ i.size = 1 ∧ i.bytes = 8
theorem IntsT.of {P : Program} {T e : TypeId} (h1 : P.underlying T = some (.slice e)) (h2 : (P.info? e).map (fun i => (i.zero, i.size, i.bytes)) = some (some (.int .i64 0), 1, 8)) : IntsT P T e := by
  obtain ⟨i, hi, hi2⟩ := Option.map_eq_some_iff.1 h2
  simp only [Prod.mk.injEq] at hi2
  exact ⟨h1, i, hi, hi2⟩
section
variable {P : Program} {T e : TypeId} {ops : Array Oper} {rest : List Oper} {a : Act} {w : World} {Q : Exit → Act → World → Prop} {dst : Option Tmp} {ty : TypeId} {pos : String} {af : Array Edge} {x y : Operand}
/-- 'append(l, n)'. -/
theorem wc_append_int (hT : IntsT P T e) {B : Nat} {v : Value} {l : List Int} (h : OwnInts w B e v l) (hB : B ≤ w.heap.size) (hl : l.length + 1 ≤ 17592186044416) {as : Array Operand} {ts : Array TypeId} (has : as = #[x, y]) (hts : ts = #[T, T]) (hx : a.eval x = v)
    {g : Nat} {n : Int} (hy : a.eval y = .slice (some ⟨g, 0, none⟩) 1 1) (hg : w.cell? ⟨g, 0, none⟩ = some (.int .i64 n))
    (h' : ∀ v' w', OwnInts w' B e v' (l ++ [n]) → Tch v.ownBlock.toList w w' → wpList P ops Q rest (a.put dst v') w') : wpList P ops Q (⟨dst, .call { callee := .builtin .append, args := as, argTypes := ts }, ty, pos, af, none⟩ :: rest) a w := by
  subst has hts
  obtain ⟨i, h1, h2, h3, h4⟩ := hT.info
  refine wpList_append_own w rfl x y T rfl B e i (.int .i64 0) 1 8 hT.und h1 h2 h3 h4 rfl (by decide) v l.length (l.map (Value.int .i64)) hx h ⟨g, 0, none⟩ 1 1 [.int .i64 n] hy rfl ?_ ?_ ?_ ?_ hB ?_
  · intro j u hj
    match j, hj with
    | 0, hj => cases hj; rw [Addr.add_zero']; exact hg
  · intro u hu; simp at hu; subst hu; rfl
  · unfold maxLen; omega
  · omega
  · intro v' w' hown hgr _
    refine h' v' w' ?_ (Tch.of_grown hgr (fun k hk => by rw [hk]; simp))
    unfold OwnInts
    simpa using hown
end
end Go.Cib
