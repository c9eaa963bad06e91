/-
  Small laws, for any program: parts of lists of one-cell values, appended to lists of the call's own.
-/
import Derived.Test.YtcdgeeoajhbneaaGreatVals
import GoSem.Builtin.Append
import GoSem.Instr.Slice
namespace Go.Cib
open Go Go.RowKit
theorem OwnVals.low {w : World} {B B' : Nat} {e : TypeId} {v : Value} {l : List Value} (h : OwnVals w B e v l) (hb : B' ≤ B) : OwnVals w B' e v l := by
  obtain ⟨h1, h2⟩ := h
  refine ⟨h1, ?_⟩
  rcases h2 with h2 | ⟨g, cap, cur, rfl, h3, h4⟩
  · exact .inl h2
  · exact .inr ⟨g, cap, cur, rfl, Nat.le_trans hb h3, h4⟩
theorem OwnVals.high {w : World} {B B' : Nat} {e : TypeId} {v : Value} {l : List Value} (h : OwnVals w B e v l) (hb : ∀ k ∈ v.ownBlock.toList, B' ≤ k) : OwnVals w B' e v l := by
  obtain ⟨h1, h2⟩ := h
  refine ⟨h1, ?_⟩
  rcases h2 with h2 | ⟨g, cap, cur, rfl, h3, h4⟩
  · exact .inl h2
  · exact .inr ⟨g, cap, cur, rfl, hb g (by simp [Value.ownBlock]), h4⟩
/-- A slice value that holds l, wherever it lies. -/
def ValsV (w : World) (v : Value) (l : List Value) : Prop := ∃ a cap, v = .slice a l.length cap ∧ ValsAt w a l
theorem OwnVals.valsV {w : World} {B : Nat} {e : TypeId} {v : Value} {l : List Value} (h : OwnVals w B e v l) : ValsV w v l := by
  obtain ⟨a, cap, h1, h2, _⟩ := h.vals
  exact ⟨a, cap, h1, h2⟩
theorem ValsV.later {w w' : World} {v : Value} {l : List Value} (h : ValsV w v l) (ht : Tch [] w w') : ValsV w' v l := by
  obtain ⟨a, cap, h1, h2⟩ := h
  exact ⟨a, cap, h1, h2.later ht⟩
theorem ValsAt.off {w : World} {b o : Nat} {l : List Value} (h : ValsAt w (some ⟨b, o, none⟩) l) (i : Nat) : ValsAt w (some ⟨b, o + i, none⟩) (l.drop i) := by
  intro j v hj
  rw [List.getElem?_drop] at hj
  obtain ⟨b', o', e, hc⟩ := h _ _ hj
  cases e
  exact ⟨b, o + i, rfl, by rw [Nat.add_assoc]; exact hc⟩
theorem ValsAt.take {w : World} {a : Option Addr} {l : List Value} (h : ValsAt w a l) (i : Nat) : ValsAt w a (l.take i) := by
  intro j v hj
  rw [List.getElem?_take] at hj
  split at hj
  · exact h j v hj
  · cases hj
theorem valsAt_nil (w : World) (a : Option Addr) : ValsAt w a [] := fun j v hj => by simp at hj
section
variable {P : Program} {T e : TypeId} {ops : Array Oper} {rest : List Oper} {a : Act} {w : World} {Q : Exit → Act → World → Prop} {dst : Option Tmp} {ty : TypeId} {pos : String} {af : Array Edge} {gd : Option (Nat × Bool)} {x y : Operand}
theorem OneT.size {z : Value} {by_ : Nat} (hT : OneT P T e z by_) (w : World) : (sizeOf e).run P w = .ok 1 w := by
  obtain ⟨i, h1, _, h3, _⟩ := hT.info
  simp [sizeOf, typeInfo, h1, h3]
theorem exec_slice_to {z : Value} {by_ : Nat} (hT : OneT P T e z by_) {ad : Option Addr} {n cap i : Nat} (hx : a.eval x = .slice ad n cap) (hy : a.eval y = .int .i64 i) (hi : i ≤ cap) :
    (execOp a.eval ⟨dst, .slice T x none (some y) none, ty, pos, af, gd⟩).run P w = .ok (.value (.slice (if cap = 0 then ad else ad.map (·.add (0 * 1))) i cap)) w := by
  have hs := hT.size w
  unfold execOp
  simp [hx, hy, Instr.sliceAt, Instr.slice, Sem.run_bind, run_underlying hT.und, Instr.sliceBounds, Instr.sliceBound, hs, asIntOf, hi]
theorem exec_slice_from {z : Value} {by_ : Nat} (hT : OneT P T e z by_) {ad : Option Addr} {n cap i : Nat} (hx : a.eval x = .slice ad n cap) (hy : a.eval y = .int .i64 i) (hi : i ≤ n) :
    (execOp a.eval ⟨dst, .slice T x (some y) none none, ty, pos, af, gd⟩).run P w = .ok (.value (.slice (if cap = i then ad else ad.map (·.add (i * 1))) (n - i) (cap - i))) w := by
  have hs := hT.size w
  unfold execOp
  simp [hx, hy, Instr.sliceAt, Instr.slice, Sem.run_bind, run_underlying hT.und, Instr.sliceBounds, Instr.sliceBound, hs, asIntOf, hi]
/-- 'l[:i]' and 'l[i:]'. -/
theorem wc_slice_to {z : Value} {by_ : Nat} (hT : OneT P T e z by_) {B : Nat} {v : Value} {l : List Value} (h : OwnVals w B e v l) {i : Nat} (hi : i ≤ l.length) (hx : a.eval x = v) (hy : a.eval y = .int .i64 i)
    (h' : ∀ u, ValsV w u (l.take i) → wpList P ops Q rest (a.put dst u) w) : wpList P ops Q (⟨dst, .slice T x none (some y) none, ty, pos, af, none⟩ :: rest) a w := by
  have hlen : (l.take i).length = i := by rw [List.length_take]; omega
  rcases h.shape with ⟨rfl, rfl⟩ | ⟨g, cap, cur, rfl, hb, hg, hlc, _, hcs, htk⟩
  · have hi0 : i = 0 := by simpa using hi
    subst hi0
    exact wc_value rfl (exec_slice_to hT hx hy (Nat.zero_le _)) (h' _ ⟨_, _, rfl, valsAt_nil _ _⟩)
  · refine wc_value rfl (exec_slice_to hT hx hy (by omega)) (h' _ ⟨_, _, by rw [hlen], ?_⟩)
    have hv : ValsAt w (some ⟨g, 0, none⟩) l := by
      obtain ⟨a1, c1, e1, h1, _⟩ := h.vals
      cases e1; exact h1
    split
    · exact hv.take i
    · simp only [Option.map_some, add_mk]
      exact hv.take i
theorem wc_slice_from {z : Value} {by_ : Nat} (hT : OneT P T e z by_) {B : Nat} {v : Value} {l : List Value} (h : OwnVals w B e v l) {i : Nat} (hi : i ≤ l.length) (hx : a.eval x = v) (hy : a.eval y = .int .i64 i)
    (h' : ∀ u, ValsV w u (l.drop i) → wpList P ops Q rest (a.put dst u) w) : wpList P ops Q (⟨dst, .slice T x (some y) none none, ty, pos, af, none⟩ :: rest) a w := by
  have hlen : (l.drop i).length = l.length - i := by rw [List.length_drop]
  rcases h.shape with ⟨rfl, rfl⟩ | ⟨g, cap, cur, rfl, hb, hg, hlc, _, hcs, htk⟩
  · have hi0 : i = 0 := by simpa using hi
    subst hi0
    exact wc_value rfl (exec_slice_from hT hx hy (Nat.le_refl _)) (h' _ ⟨_, _, rfl, valsAt_nil _ _⟩)
  · refine wc_value rfl (exec_slice_from hT hx hy hi) (h' _ ⟨_, _, by rw [hlen], ?_⟩)
    have hv : ValsAt w (some ⟨g, 0, none⟩) l := by
      obtain ⟨a1, c1, e1, h1, _⟩ := h.vals
      cases e1; exact h1
    split
    · rename_i hc
      rw [List.drop_of_length_le (by omega)]
      exact valsAt_nil _ _
    · simp only [Option.map_some, add_mk, Nat.mul_one]
      exact hv.off i
theorem exec_append_zero {z : Value} {by_ : Nat} (hT : OneT P T e z by_) {ad bd : Option Addr} {n cap c : Nat} (hn : n ≤ cap) (hx : a.eval x = .slice ad n cap) (hy : a.eval y = .slice bd 0 c) :
    (execOp a.eval ⟨dst, .call { callee := .builtin .append, args := #[x, y], argTypes := #[T, T] }, ty, pos, af, gd⟩).run P w = .ok (.value (.slice ad n cap)) w := by
  obtain ⟨i, h1, _, h3, _⟩ := hT.info
  have hr : (Builtin.append_ #[T, T] ty #[.slice ad n cap, .slice bd 0 c]).run P w = .ok (.slice ad n cap) w := by
    cases bd <;> cases ad <;> simp [Builtin.append_, run_underlying hT.und, sizeOf, typeInfo, h1, Builtin.lenOf, Builtin.firstCells, loadCells, loadCellsFrom, hn, storeCells]
  unfold execOp
  simp only [resolve, invoke, builtin, Sem.run_bind, Sem.run_pure, Result.andThen_ok, List.map_toArray, List.map_cons, List.map_nil, hx, hy, hr]
/-- 'append(l, m...)' of whatever lies somewhere. -/
theorem wc_append_of {z : Value} {by_ : Nat} (hT : OneT P T e z by_) (hby : by_ ≤ 16) {B : Nat} {v : Value} {l : List Value} (h : OwnVals w B e v l) (hB : B ≤ w.heap.size) {u : Value} {m : List Value} (hl : l.length + m.length ≤ 1000000) {ar : Array Operand} {ts : Array TypeId} (har : ar = #[x, y]) (hts : ts = #[T, T]) (hx : a.eval x = v)
    (hy : a.eval y = u) (hu : ValsV w u m) (hone : ∀ u ∈ m, u.oneCell' = true)
    (h' : ∀ v' w', OwnVals w' B e v' (l ++ m) → Tch v.ownBlock.toList w w' → wpList P ops Q rest (a.put dst v') w') : wpList P ops Q (⟨dst, .call { callee := .builtin .append, args := ar, argTypes := ts }, ty, pos, af, none⟩ :: rest) a w := by
  obtain ⟨ad, cap, rfl, hv⟩ := hu
  cases m with
  | nil =>
    subst har hts
    obtain ⟨b1, c1, e1, h1, _⟩ := h.cap_
    subst e1
    refine wc_value rfl (exec_append_zero hT h1 hx (by simpa using hy)) (h' _ _ ?_ (Tch.refl _ _))
    rw [List.append_nil]; exact h
  | cons y0 ys =>
    obtain ⟨b, o, rfl, _⟩ := hv 0 y0 rfl
    exact wc_append_vals hT hby h hB hl har hts hx hy hv hone h'
end
end Go.Cib
