/-
  Small laws, for any program: rows that are made, appended to, copied.
-/
import Derived.Test.YthbaipljlbddcaaGreatSec
namespace Go.Cib
open Go Go.RowKit

theorem madeRows (z : Array Value) (n : Nat) : (Array.range (n * z.size)).map (fun i => z[i % z.size]!) = rowsA (List.replicate n z) := by
  apply Array.toList_inj.1
  rw [Array.toList_map, Array.toList_range]
  simp only [rowsA]
  induction n with
  | zero => simp
  | succ n ih =>
    rw [Nat.succ_mul, List.range_add, List.map_append, ih, List.replicate_succ', List.flatMap_append]
    congr 1
    rw [List.map_map]
    simp only [List.flatMap_cons, List.flatMap_nil, List.append_nil]
    apply List.ext_getElem
    · simp
    · intro i h1 h2
      simp only [List.length_map, List.length_range] at h1
      simp only [List.getElem_map, List.getElem_range, Function.comp_apply]
      rw [show (n * z.size + i) % z.size = i by rw [Nat.mul_comm, Nat.mul_add_mod, Nat.mod_eq_of_lt h1]]
      rw [getElem!_pos z i h1]
      simp

section
variable {P : Program} {T E : TypeId} {ops : Array Oper} {rest : List Oper} {a : Act} {w : World} {Q : Exit → Act → World → Prop} {dst : Option Tmp} {ty : TypeId} {pos : String} {af : Array Edge} {x y : Operand}
/-- 'make([]T, n)'. -/
theorem wc_makeRows (hT : P.underlying T = some (.slice E)) {i : TypeInfo} (hi : P.info? E = some i) {z : Value} (hz : i.zero = some z) (hs : z.cells.size = i.size) {n : Nat}
    (hb : i.bytes * n ≤ 281474976710656) (hn : n ≤ 9223372036854775807) (hx : a.eval x = .int .i64 n) (hy : a.eval y = .int .i64 n)
    (h : wpList P ops Q rest (a.put dst (.slice (some ⟨w.heap.size, 0, none⟩) n n)) (w.alloc (.cells (rowsA (List.replicate n z.cells)) E))) : wpList P ops Q (⟨dst, .makeSlice T x y, ty, pos, af, none⟩ :: rest) a w := by
  have hm := madeRows z.cells n
  have hr := run_make (P := P) w T E i z hT hi hz .i64 .i64 n n (by omega) (by omega) (by rw [← Int.natCast_mul]; omega) (by omega)
  simp only [Int.toNat_natCast] at hr
  rw [← hs, show madeCells z.cells (n * z.cells.size) = _ from hm] at hr
  refine wc_value rfl ?_ h
  unfold execOp
  simp [hx, hy, hr]
theorem rows_zero {n m : Nat} : rowsA (List.replicate m (secA (Arr.zero : Arr n))) = secsA (List.replicate m (Arr.zero : Arr n)) := by
  unfold secsA
  rw [List.map_replicate]
/-- 'make([]T, m)' of arrays of bytes. -/
theorem wc_makeArrs {n : Nat} (hE : BytesT P E n) (hT : P.underlying T = some (.slice E)) {m : Nat} (hb : n * m ≤ 281474976710656) (hm : m ≤ 9223372036854775807) (hx : a.eval x = .int .i64 m) (hy : a.eval y = .int .i64 m)
    (h : wpList P ops Q rest (a.put dst (.slice (some ⟨w.heap.size, 0, none⟩) m m)) (w.alloc (.cells (secsA (List.replicate m (Arr.zero : Arr n))) E))) : wpList P ops Q (⟨dst, .makeSlice T x y, ty, pos, af, none⟩ :: rest) a w := by
  obtain ⟨i, h1, h2, h3, h4⟩ := hE.info
  refine wc_makeRows hT h1 h4 (by simp [Value.cells, h2]) (by rw [h3]; exact hb) hm hx hy ?_
  rw [show (Value.agg (bytesA (List.replicate n 0))).cells = secA (Arr.zero : Arr n) from rfl, rows_zero]
  exact h
end
end Go.Cib
