/-
  Small laws, for any program: slices of whole arrays: a literal of one, append of one, a store into a row's head, copy.
-/
import Derived.Test.YtkjgbhpnlgcinaaGreatDoorMQ
namespace Go.Cib
open Go Go.RowKit
section
variable {n : Nat} {P : Program} {T : TypeId} {ops : Array Oper} {rest : List Oper} {a : Act} {w : World} {Q : Exit → Act → World → Prop} {dst : Option Tmp} {ty : TypeId} {pos : String} {af : Array Edge} {x y : Operand} {gd : Option (Nat × Bool)}

theorem foldl_set : ∀ (vs : List Value) (off : Nat) (c : Array Value), off + vs.length ≤ c.size → (vs.zipIdx).foldl (fun (cs : Array Value) (p : Value × Nat) => cs.setIfInBounds (off + p.2) p.1) c = (c.toList.take off ++ vs ++ c.toList.drop (off + vs.length)).toArray := by
  have key : ∀ (vs : List Value) (k off : Nat) (c : Array Value), off + k + vs.length ≤ c.size → (vs.zipIdx k).foldl (fun (cs : Array Value) (p : Value × Nat) => cs.setIfInBounds (off + p.2) p.1) c = (c.toList.take (off + k) ++ vs ++ c.toList.drop (off + k + vs.length)).toArray := by
    intro vs
    induction vs with
    | nil => intro k off c h; simp
    | cons v vs ih =>
      intro k off c h
      simp only [List.length_cons] at h
      rw [List.zipIdx_cons, List.foldl_cons, ih (k + 1) off _ (by simp; omega)]
      congr 1
      have e := list_seg_step c.toList (off + k) v vs (by simp; omega)
      simpa [Array.toList_setIfInBounds, Nat.add_assoc] using e
  intro vs off c h
  simpa using key vs 0 off c (by simpa using h)
theorem fill_one {m : Nat} {c v : Array Value} (hc : c.size = m) (hv : v.size = m) : Instr.fill (fun i => some (i * m, m)) c [(0, .agg v)] = some v := by
  unfold Instr.fill Instr.fill
  simp only [Nat.zero_mul, Value.cells, hv]
  rw [if_neg (by simp; omega)]
  congr 1
  have h := foldl_set v.toList 0 c (by simp; omega)
  simp only [List.take_zero, List.nil_append, Nat.zero_add] at h
  rw [List.drop_of_length_le (by simp; omega), List.append_nil, Array.toArray_toList] at h
  refine Eq.trans ?_ h
  rw [← Array.foldl_toList]
  simp
theorem exec_slice_one (hT : BytesT P T n) (hn : 0 < n) (hn2 : n ≤ 16777216) {S : TypeId} (hS : P.underlying S = some (.slice T)) {s : Arr n} {w : World} (hx : a.eval x = .agg (secA s)) :
    (execOp a.eval ⟨dst, .buildSlice S 1 #[(0, x)], ty, pos, af, gd⟩).run P w = .ok (.value (.slice (some ⟨w.heap.size, 0, none⟩) 1 1)) (w.alloc (.cells (secA s) T)) := by
  obtain ⟨i, h1, h2, h3, h4⟩ := hT.info
  have hz := hT.zero w
  have hf := fill_one (c := (Array.range (1 * n)).map (((Value.agg (bytesA (List.replicate n 0))).cells)[· % ((Value.agg (bytesA (List.replicate n 0))).cells).size]!)) (v := secA s) (m := n) (by simp) (size_secA s)
  unfold execOp
  simp only [Instr.buildSlice, List.map_toArray, List.map_cons, List.map_nil, hx]
  rw [Nat.one_mul] at hf
  have hn0 : ¬ n = 0 := by omega
  have hn3 : ¬ 16777216 < n := by omega
  simp [Sem.run_bind, run_underlying hS, sizeOf, typeInfo, h1, h2, hz, hn0, hn3, hf, newRow]
theorem wc_slice_one (hT : BytesT P T n) (hn : 0 < n) (hn2 : n ≤ 16777216) {S : TypeId} (hS : P.underlying S = some (.slice T)) {s : Arr n} (hx : a.eval x = .agg (secA s))
    (h : wpList P ops Q rest (a.put dst (.slice (some ⟨w.heap.size, 0, none⟩) 1 1)) (w.alloc (.cells (secA s) T))) : wpList P ops Q (⟨dst, .buildSlice S 1 #[(0, x)], ty, pos, af, none⟩ :: rest) a w :=
  wc_value rfl (exec_slice_one hT hn hn2 hS hx) h

/-- A slice of arrays of the call's own. -/
def OwnArrs (w : World) (B : Nat) (e : TypeId) (v : Value) (ls : List (Arr n)) : Prop := w.ownsRow B e n v ls.length (secsA ls).toList
theorem ownArrs_nil (w : World) (B : Nat) (e : TypeId) : OwnArrs (n := n) w B e (.slice none 0 0) [] := World.ownsRow_nil w B e n
theorem OwnArrs.shape {B : Nat} {e : TypeId} {v : Value} {ls : List (Arr n)} (h : OwnArrs w B e v ls) :
    (v = .slice none 0 0 ∧ ls = []) ∨ ∃ g cap, v = .slice (some ⟨g, 0, none⟩) ls.length cap ∧ B ≤ g ∧ SecsIn w g ls := by
  obtain ⟨h1, h2⟩ := h
  rcases h2 with ⟨rfl, h3⟩ | ⟨g, cap, cur, rfl, h3, h4, h5, h6, h7, h8⟩
  · exact .inl ⟨rfl, List.eq_nil_of_length_eq_zero h3⟩
  · refine .inr ⟨g, cap, rfl, h3, cur, e, h4, by rw [h7]; exact Nat.mul_le_mul_right _ h5, ?_⟩
    apply Array.toList_inj.1
    rw [Array.toList_extract, List.extract_eq_take_drop, List.drop_zero, Nat.sub_zero, h8]
theorem OwnArrs.kept {w' : World} {B : Nat} {e : TypeId} {v : Value} {ls : List (Arr n)} {S : List Nat} (h : OwnArrs w B e v ls) (ht : Tch S w w') (hn : ∀ g, v.ownBlock = some g → g ∉ S) : OwnArrs w' B e v ls := by
  obtain ⟨h1, h2⟩ := h
  refine ⟨h1, ?_⟩
  rcases h2 with h2 | ⟨g, cap, cur, rfl, h3, h4, h5⟩
  · exact .inl h2
  · exact .inr ⟨g, cap, cur, rfl, h3, ht.heap h4 (hn g rfl), h5⟩
theorem OwnArrs.lt {B : Nat} {e : TypeId} {v : Value} {ls : List (Arr n)} (h : OwnArrs w B e v ls) : ∀ k ∈ v.ownBlock.toList, B ≤ k ∧ k < w.heap.size := by
  intro k hk
  rcases h.shape with ⟨rfl, _⟩ | ⟨g, cap, rfl, hb, cur, e', hg, _⟩
  · simp [Value.ownBlock] at hk
  · simp [Value.ownBlock] at hk
    subst hk
    exact ⟨hb, lt_of_heap hg⟩
theorem secsA_snoc (ls : List (Arr n)) (s : Arr n) : (secsA (ls ++ [s])).toList = (secsA ls).toList ++ (secA s).toList := by
  unfold secsA
  rw [List.map_append, rowsA_append]
  simp [rowsA]
/-- 'append(l, s)'. -/
theorem wc_append_arr (hT : BytesT P T n) (hn : 0 < n) {S : TypeId} (hS : P.underlying S = some (.slice T)) {B : Nat} {v : Value} {ls : List (Arr n)} (h : OwnArrs w B T v ls) (hB : B ≤ w.heap.size) (hl : (ls.length + 1) * n ≤ 140737488355328) {ar : Array Operand} {ts : Array TypeId} (har : ar = #[x, y]) (hts : ts = #[S, S]) (hx : a.eval x = v)
    {g : Nat} {s : Arr n} {e : TypeId} (hy : a.eval y = .slice (some ⟨g, 0, none⟩) 1 1) (hg : w.heap[g]? = some (.cells (secA s) e))
    (h' : ∀ v' w', OwnArrs w' B T v' (ls ++ [s]) → Tch v.ownBlock.toList w w' → wpList P ops Q rest (a.put dst v') w') : wpList P ops Q (⟨dst, .call { callee := .builtin .append, args := ar, argTypes := ts }, ty, pos, af, none⟩ :: rest) a w := by
  subst har hts
  obtain ⟨i, h1, h2, h3, h4⟩ := hT.info
  have hmul : ls.length + 1 ≤ (ls.length + 1) * n := Nat.le_mul_of_pos_right _ hn
  refine wpList_append_own w rfl x y S rfl B T i (.agg (bytesA (List.replicate n 0))) n n hS h1 h4 h2 h3 (by simp [Value.cells]) hn v ls.length (secsA ls).toList hx h ⟨g, 0, none⟩ 1 1 (secA s).toList hy (by simp) ?_ ?_ ?_ ?_ hB ?_
  · intro j u hj
    rw [add_mk, Nat.zero_add, cell_of_row w g j _ _ _ hg]
    simpa using hj
  · exact secA_one s
  · unfold maxLen; omega
  · exact hl
  · intro v' w' hown hgr _
    refine h' v' w' ?_ (Tch.of_grown hgr (fun k hk => by rw [hk]; simp))
    unfold OwnArrs
    rw [secsA_snoc, List.length_append, List.length_singleton]
    exact hown
theorem spl_extract {c v : Array Value} {off m : Nat} (h1 : off + v.size ≤ m) (h2 : m ≤ c.size) : (spl c off v).extract 0 m = spl (c.extract 0 m) off v := by
  apply Array.toList_inj.1
  have e1 : (c.toList.take off ++ v.toList).length = off + v.size := by simp; omega
  simp only [spl, Array.toList_extract, List.extract_eq_take_drop, List.drop_zero, Nat.sub_zero]
  rw [List.take_append, e1, List.take_of_length_le (by rw [e1]; exact h1), List.take_take, Nat.min_eq_left (by omega), List.drop_take]
/-- One of a row's head is stored. -/
theorem exec_store_in (hT : BytesT P T n) {b i : Nat} {ls : List (Arr n)} {s : Arr n} {o : Oper} (ho : o.op = .store T x y) (hb : SecsIn w b ls) (hi : i < ls.length) (hx : a.eval x = .pointer (some ⟨b, i * n, none⟩)) (hy : a.eval y = .agg (secA s)) :
    ∃ w', (execOp a.eval o).run P w = .ok .skip w' ∧ SecsIn w' b (ls.set i s) ∧ Tch [b] w w' := by
  obtain ⟨cur, e, h1, h2, h3⟩ := hb
  have hl := mul_in (k := n) hi
  refine ⟨_, exec_store_agg hT.agg ho hx hy (by simp) (secA_one s) h1 (by omega), ⟨_, _, setRow_heap _ _ _ _ _ _ h1, ?_, ?_⟩, (Tch.refl _ _).setRow (.inl (by simp)) _⟩
  · rw [List.length_set, size_spl _ _ _ (by simp; omega)]; exact h2
  · rw [List.length_set, spl_extract (by simp; omega) h2, h3, secsA_spl hi]
theorem wc_store_in (hT : BytesT P T n) {b i : Nat} {ls : List (Arr n)} {s : Arr n} (hb : SecsIn w b ls) (hi : i < ls.length) (hx : a.eval x = .pointer (some ⟨b, i * n, none⟩)) (hy : a.eval y = .agg (secA s))
    (h : ∀ w', SecsIn w' b (ls.set i s) → Tch [b] w w' → wpList P ops Q rest (a.put dst undef) w') : wpList P ops Q (⟨dst, .store T x y, ty, pos, af, none⟩ :: rest) a w := by
  obtain ⟨w', h1, h2, h3⟩ := exec_store_in hT (o := ⟨dst, .store T x y, ty, pos, af, none⟩) rfl hb hi hx hy
  exact wc_done rfl h1 (h w' h2 h3)
/-- 'copy(d, l)', both of one length. -/
theorem run_copy_arrs (hT : BytesT P T n) {S S2 : TypeId} (hS : P.underlying S = some (.slice T)) {L b : Nat} {ls ls0 : List (Arr n)} {c1 c2 : Nat} {e : TypeId} (hL : w.heap[L]? = some (.cells (secsA ls0) e)) (hb : SecsIn w b ls) (hlen : ls0.length = ls.length) :
    (Builtin.copy_ #[S, S2] ty #[.slice (some ⟨L, 0, none⟩) ls.length c1, .slice (some ⟨b, 0, none⟩) ls.length c2]).run P w = .ok (goInt ls.length) (w.setRow L (secsA ls)) := by
  obtain ⟨i, h1, h2, _, _⟩ := hT.info
  obtain ⟨cur, e', g1, g2, g3⟩ := hb
  have hl := run_loadCells_block (P := P) w b 0 (ls.length * n) cur e' (0, 0) g1 (by omega)
  rw [Nat.zero_add, g3] at hl
  have hst := run_storeCells_at P L 0 e (secsA ls).toList 0 (secsA ls0) w hL (by simp [hlen]) (secsA_one ls)
  simp only [Nat.zero_add, List.take_zero, List.nil_append] at hst
  rw [List.drop_of_length_le (by simp [hlen]), List.append_nil, Array.toArray_toList] at hst
  simp [Builtin.copy_, run_underlying hS, Builtin.lenOf, Builtin.firstCells, sizeOf, typeInfo, h1, h2, hl, hst]
theorem wc_copy_arrs (hT : BytesT P T n) {S S2 : TypeId} (hS : P.underlying S = some (.slice T)) {L b : Nat} {ls ls0 : List (Arr n)} {c1 c2 : Nat} {e : TypeId} (hL : w.heap[L]? = some (.cells (secsA ls0) e)) (hb : SecsIn w b ls) (hlen : ls0.length = ls.length) {ar : Array Operand} {ts : Array TypeId} (har : ar = #[x, y]) (hts : ts = #[S, S2])
    (hx : a.eval x = .slice (some ⟨L, 0, none⟩) ls.length c1) (hy : a.eval y = .slice (some ⟨b, 0, none⟩) ls.length c2) (h : wpList P ops Q rest (a.put dst (goInt ls.length)) (w.setRow L (secsA ls))) :
    wpList P ops Q (⟨dst, .call { callee := .builtin .copy, args := ar, argTypes := ts }, ty, pos, af, none⟩ :: rest) a w := by
  subst har hts
  refine wc_value rfl ?_ h
  have hr := run_copy_arrs (ty := ty) (S2 := S2) (c1 := c1) (c2 := c2) hT hS hL hb hlen
  unfold execOp
  simp [resolve, invoke, builtin, hx, hy, hr, Result.andThen]
end
end Go.Cib
