/-
  Small laws, for any program: a row's head that holds arrays.
-/
import Derived.Test.YtcdgeeoajhbneaaGreatSec
import Derived.StillTailTactics
namespace Go.Cib
open Go Go.RowKit
/-- b's first cells are the arrays ls. -/
def SecsIn {n : Nat} (w : World) (b : Nat) (ls : List (Arr n)) : Prop := ∃ cur e, w.heap[b]? = some (.cells cur e) ∧ ls.length * n ≤ cur.size ∧ cur.extract 0 (ls.length * n) = secsA ls
theorem secsIn_whole {n : Nat} {w : World} {b : Nat} {ls : List (Arr n)} {e : TypeId} (h : w.heap[b]? = some (.cells (secsA ls) e)) : SecsIn w b ls :=
  ⟨_, _, h, by simp, by have := Array.extract_size (xs := secsA ls); rw [size_secsA] at this; exact this⟩
theorem SecsIn.touch {n : Nat} {w w' : World} {b : Nat} {ls : List (Arr n)} {S : List Nat} (h : SecsIn w b ls) (ht : Tch S w w') (hb : b ∉ S) : SecsIn w' b ls := by
  obtain ⟨cur, e, h1, h2⟩ := h
  exact ⟨cur, e, ht.heap h1 hb, h2⟩
section
variable {n : Nat} {P : Program} {T : TypeId} {ops : Array Oper} {rest : List Oper} {a : Act} {w : World} {Q : Exit → Act → World → Prop} {dst : Option Tmp} {ty : TypeId} {pos : String} {af : Array Edge} {x y : Operand}
theorem exec_load_in (hT : BytesT P T n) {b i : Nat} {ls : List (Arr n)} {s : Arr n} {o : Oper} (ho : o.op = .load T x) (hb : SecsIn w b ls) (hi : ls[i]? = some s) (hx : a.eval x = .pointer (some ⟨b, i * n, none⟩)) :
    (execOp a.eval o).run P w = .ok (.value (.agg (secA s))) w := by
  obtain ⟨cur, e, h1, h2, h3⟩ := hb
  have hil := (List.getElem?_eq_some_iff.1 hi).1
  have hl := mul_in (k := n) hil
  rw [exec_load_agg hT.agg ho hx h1 (by omega)]
  congr 3
  have h4 := secsA_extract hi
  rw [← h3, Array.extract_extract] at h4
  rw [← h4]
  congr 1 <;> omega
theorem ws_load_in {Qs : Act → Prop} (hT : BytesT P T n) {b i : Nat} {ls : List (Arr n)} {s : Arr n} (hb : SecsIn w b ls) (hi : ls[i]? = some s) (hx : a.eval x = .pointer (some ⟨b, i * n, none⟩))
    (h : wpStill P ops w Qs rest (a.put dst (.agg (secA s)))) : wpStill P ops w Qs (⟨dst, .load T x, ty, pos, af, none⟩ :: rest) a :=
  ws_value rfl (exec_load_in hT rfl hb hi hx) h
theorem wc_load_in (hT : BytesT P T n) {b i : Nat} {ls : List (Arr n)} {s : Arr n} (hb : SecsIn w b ls) (hi : ls[i]? = some s) (hx : a.eval x = .pointer (some ⟨b, i * n, none⟩))
    (h : wpList P ops Q rest (a.put dst (.agg (secA s))) w) : wpList P ops Q (⟨dst, .load T x, ty, pos, af, none⟩ :: rest) a w :=
  wc_value rfl (exec_load_in hT rfl hb hi hx) h
theorem ws_neq_arr {Qs : Act → Prop} (hT : BytesT P T n) {yt : TypeId} {s t : Arr n} (hx : a.eval x = .agg (secA s)) (hy : a.eval y = .agg (secA t))
    (h : wpStill P ops w Qs rest (a.put dst (.bool (!decide (s = t))))) : wpStill P ops w Qs (⟨dst, .binOp .neq T x y yt, ty, pos, af, none⟩ :: rest) a := by
  rw [← decide_arr] at h
  exact ws_value rfl (exec_neq_bytes hT rfl hx hy s.h t.h) h
/-- 'append([]T{}, xs...)', xs a row that is not empty. -/
theorem wc_clone_arrs (hT : BytesT P T n) {S : TypeId} (hS : P.underlying S = some (.slice T)) (hn : 0 < n) {g b : Nat} {ls : List (Arr n)} {cap : Nat} {e : TypeId} (hg : w.heap[g]? = some (.cells #[] T)) (hb : w.heap[b]? = some (.cells (secsA ls) e)) (hls : ls ≠ [])
    (hlim : ls.length * n ≤ 140737488355328) {ar : Array Operand} {ts : Array TypeId} (har : ar = #[x, y]) (hts : ts = #[S, S]) (hx : a.eval x = .slice (some ⟨g, 0, none⟩) 0 0) (hy : a.eval y = .slice (some ⟨b, 0, none⟩) ls.length cap)
    (h' : ∀ k cap' w', Tch [g] w w' → g ≤ k → SecsIn w' k ls → wpList P ops Q rest (a.put dst (.slice (some ⟨k, 0, none⟩) ls.length cap')) w') :
    wpList P ops Q (⟨dst, .call { callee := .builtin .append, args := ar, argTypes := ts }, ty, pos, af, none⟩ :: rest) a w := by
  subst har hts
  obtain ⟨i, h1, h2, h3, h4⟩ := hT.info
  have hglt := lt_of_heap hg
  refine wpList_append_own w rfl x y S rfl g T i (.agg (bytesA (List.replicate n 0))) n n hS h1 h4 h2 h3 (by simp [Value.cells]) hn (.slice (some ⟨g, 0, none⟩) 0 0) 0 [] hx ⟨by simp, .inr ⟨g, 0, #[], rfl, Nat.le_refl _, hg, Nat.le_refl _, by simp, by simp, by simp⟩⟩ ⟨b, 0, none⟩ ls.length cap (secsA ls).toList hy (by simp) ?_ ?_ ?_ ?_ (by omega) ?_
  · intro j u hj
    rw [add_mk, Nat.zero_add, cell_of_row w b j _ _ _ hb]
    simpa using hj
  · exact secsA_one ls
  · unfold maxLen
    have : ls.length ≤ ls.length * n := Nat.le_mul_of_pos_right _ hn
    omega
  · rw [Nat.zero_add]; exact hlim
  · intro v' w' hown hgr _
    rw [Nat.zero_add, List.nil_append] at hown
    obtain ⟨hl, hv | ⟨k, cap', cur, rfl, hgk, hk, hc1, hc2, hc3, hc4⟩⟩ := hown
    · exfalso
      obtain ⟨_, h0⟩ := hv
      exact hls (List.eq_nil_of_length_eq_zero h0)
    · have hlpos : 0 < ls.length := List.length_pos_iff.2 hls
      have hlen : ls.length * n ≤ cur.size := by rw [hc3]; exact Nat.mul_le_mul_right _ hc1
      refine h' k cap' w' (Tch.of_grown hgr (fun q hq => by simp [Value.ownBlock] at hq; simp [hq])) hgk ⟨cur, T, hk, hlen, ?_⟩
      apply Array.toList_inj.1
      rw [Array.toList_extract, List.extract_eq_take_drop, List.drop_zero, Nat.sub_zero, hc4]
end
end Go.Cib
