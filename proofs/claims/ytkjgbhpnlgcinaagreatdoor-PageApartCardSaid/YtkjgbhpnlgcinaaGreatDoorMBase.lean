/-
  Small laws, for any program: blocks of the heap, what a run touches, aggregates in memory, rows of elements.
-/
import Derived.WalkKit
import Derived.WalkSpells
import Derived.WalkLawsBesides
import Derived.StillTail
import Derived.Maps.RangeWalk
namespace Go.Cib
open Go Go.RowKit

section heap
variable (w : World)
theorem heap_alloc (o : Obj) (k : Nat) : (w.alloc o).heap[k]? = if k = w.heap.size then some o else w.heap[k]? := by
  show (w.heap.push o)[k]? = _
  rw [Array.getElem?_push]
theorem heap_drew (k : Nat) : w.drew.heap[k]? = w.heap[k]? := rfl
theorem heap_setCell (a : Addr) (v : Value) (k : Nat) (h : k ≠ a.block) : (w.setCell a v).heap[k]? = w.heap[k]? := heap_setCell_other w a k v h
theorem heap_setCell_cells {w : World} {b : Nat} {c : Array Value} {e : TypeId} {fr : Nat × Nat} (hb : w.heap[b]? = some (.cells c e fr)) (o : Nat) (v : Value) :
    (w.setCell ⟨b, o, none⟩ v).heap[b]? = some (.cells (c.setIfInBounds o v) e fr) := by
  rw [setCell_eq_setRow w b o c e fr v hb]
  exact setRow_heap w b c _ e fr hb
/-- Another object in a block. -/
def putObj (r : Nat) (o : Obj) : World := { w with heap := w.heap.setIfInBounds r o }
@[simp] theorem size_putObj (r : Nat) (o : Obj) : (putObj w r o).heap.size = w.heap.size := by simp [putObj]
theorem heap_putObj (r : Nat) (o : Obj) (k : Nat) (h : r < w.heap.size) : (putObj w r o).heap[k]? = if k = r then some o else w.heap[k]? := by
  simp only [putObj, Array.getElem?_setIfInBounds]
  by_cases e : r = k
  · subst e; simp [h]
  · simp [e, Ne.symm e]
theorem heap_putObj_same (r : Nat) (o : Obj) (h : r < w.heap.size) : (putObj w r o).heap[r]? = some o := by rw [heap_putObj w r o r h]; simp
theorem heap_putObj_other (r : Nat) (o : Obj) (k : Nat) (h : k ≠ r) : (putObj w r o).heap[k]? = w.heap[k]? := by
  simp only [putObj, Array.getElem?_setIfInBounds]
  rw [if_neg (fun e => h e.symm)]
end heap

theorem lt_of_heap {w : World} {b : Nat} {o : Obj} (h : w.heap[b]? = some o) : b < w.heap.size := (Array.getElem?_eq_some_iff.1 h).1

theorem ne_size {w : World} {b : Nat} {o : Obj} (h : w.heap[b]? = some o) : b ≠ w.heap.size := Nat.ne_of_lt (lt_of_heap h)

/-- What a run may have written: the blocks of S, and what it made. -/
structure Tch (S : List Nat) (w w' : World) : Prop where
  os : w'.os = w.os
  tape : w'.tape = w.tape
  output : w'.output = w.output
  size : w.heap.size ≤ w'.heap.size
  block : ∀ k, k < w.heap.size → k ∉ S → w'.heap[k]? = w.heap[k]?

namespace Tch
variable {S : List Nat} {a b c w : World}
theorem refl (S : List Nat) (w : World) : Tch S w w := ⟨rfl, rfl, rfl, Nat.le_refl _, fun _ _ _ => rfl⟩
theorem trans (h : Tch S a b) (k : Tch S b c) : Tch S a c :=
  ⟨k.os.trans h.os, k.tape.trans h.tape, k.output.trans h.output, Nat.le_trans h.size k.size, fun i hi hn => (k.block i (Nat.lt_of_lt_of_le hi h.size) hn).trans (h.block i hi hn)⟩
theorem mono {S' : List Nat} (h : Tch S a b) (hs : ∀ k ∈ S, k ∈ S') : Tch S' a b :=
  ⟨h.os, h.tape, h.output, h.size, fun k hk hn => h.block k hk (fun hm => hn (hs k hm))⟩
/-- Blocks that were not there at the start do not count. -/
theorem drop {S' : List Nat} (h : Tch S a b) (hs : ∀ k ∈ S, k ∈ S' ∨ a.heap.size ≤ k) : Tch S' a b :=
  ⟨h.os, h.tape, h.output, h.size, fun k hk hn => h.block k hk (fun hm => (hs k hm).elim hn (fun h' => by omega))⟩
theorem drew (h : Tch S a w) : Tch S a w.drew := ⟨h.os, h.tape, h.output, h.size, h.block⟩
theorem drawn (h : Tch S a w) (n : Nat) : Tch S a { w with drawn := n } := ⟨h.os, h.tape, h.output, h.size, h.block⟩
theorem alloc (h : Tch S a w) (o : Obj) : Tch S a (w.alloc o) :=
  h.trans ⟨rfl, rfl, rfl, by simp, fun k hk _ => by rw [heap_alloc, if_neg (by omega)]⟩
theorem setCell (h : Tch S a w) {p : Addr} (hp : p.block ∈ S ∨ a.heap.size ≤ p.block) (v : Value) : Tch S a (w.setCell p v) :=
  ⟨h.os, h.tape, h.output, by simpa using h.size, fun k hk hn => by
    rw [heap_setCell w p v k (fun e => by subst e; rcases hp with hp | hp; exact hn hp; omega)]; exact h.block k hk hn⟩
theorem setRow (h : Tch S a w) {g : Nat} (hp : g ∈ S ∨ a.heap.size ≤ g) (cs : Array Value) : Tch S a (w.setRow g cs) :=
  ⟨h.os, h.tape, h.output, by simpa using h.size, fun k hk hn => by
    rw [setRow_other w g k cs (fun e => by subst e; rcases hp with hp | hp; exact hn hp; omega)]; exact h.block k hk hn⟩
theorem putObj (h : Tch S a w) {g : Nat} (hp : g ∈ S ∨ a.heap.size ≤ g) (o : Obj) : Tch S a (putObj w g o) :=
  ⟨h.os, h.tape, h.output, by simpa using h.size, fun k hk hn => by
    rw [heap_putObj_other w g o k (fun e => by subst e; rcases hp with hp | hp; exact hn hp; omega)]; exact h.block k hk hn⟩
theorem heap (h : Tch S a b) {k : Nat} {o : Obj} (hk : a.heap[k]? = some o) (hn : k ∉ S) : b.heap[k]? = some o := by
  rw [h.block k (lt_of_heap hk) hn]; exact hk
theorem below (h : Tch S a b) {B : Nat} (hB : B ≤ a.heap.size) (hS : ∀ k ∈ S, B ≤ k) : Below B a b :=
  ⟨h.os, h.tape, h.output, h.size, fun k hk => h.block k (by omega) (fun hm => by have := hS k hm; omega)⟩
theorem of_below {B : Nat} (h : Below B a b) (hB : a.heap.size ≤ B) : Tch [] a b :=
  ⟨h.os, h.tape, h.output, h.size, fun k hk _ => h.block k (by omega)⟩
theorem of_grown {r : Option Nat} (h : a.grownBy b r) (hr : ∀ k, r = some k → k ∈ S) : Tch S a b :=
  ⟨h.os, h.tape, h.output, h.size, fun k hk hn => h.block k hk (fun e => hn (hr k e.symm))⟩
end Tch

theorem tch_own {w0 w w' : World} {S : List Nat} (h : Tch [] w0 w) (h' : Tch S w w') (hS : ∀ k ∈ S, w0.heap.size ≤ k) : Tch [] w0 w' :=
  ((h.mono (S' := S) (by simp)).trans h').drop (fun k hk => .inr (hS k hk))
theorem cell_old {w w' : World} (h : Tch [] w w') {a : Addr} {v : Value} (hc : w.cell? a = some v) : w'.cell? a = some v := by
  rw [World.cell?_of_block (w := w) (h.block _ (block_lt_of_cell hc) (by simp))]; exact hc

/-- T is a struct's or an array's type of n cells. -/
structure AggT (P : Program) (T : TypeId) (n : Nat) : Prop where
  und : ∃ d, P.underlying T = some d ∧ (match d with | .struct _ | .array _ _ => true | _ => false) = true
  size : ∃ i, P.info? T = some i ∧ i.size = n

section agg
variable {P : Program} {T : TypeId} {n : Nat}
theorem run_isAgg (h : AggT P T n) (w : World) : (isAgg T).run P w = .ok true w := by
  obtain ⟨d, hd, ha⟩ := h.und
  unfold isAgg
  rw [Sem.run_bind, run_underlying hd w]
  cases d <;> simp_all
theorem run_sizeOf (h : AggT P T n) (w : World) : (sizeOf T).run P w = .ok n w := by
  obtain ⟨i, hi, hs⟩ := h.size
  simp [sizeOf, typeInfo, hi, hs]
theorem add_mk (b o n : Nat) : (⟨b, o, none⟩ : Addr).add n = ⟨b, o + n, none⟩ := by unfold Addr.add; split <;> simp_all
theorem run_loadCells_block (w : World) (b off n : Nat) (c : Array Value) (e : TypeId) (fr : Nat × Nat) (hb : w.heap[b]? = some (.cells c e fr)) (hin : off + n ≤ c.size) :
    (loadCells ⟨b, off, none⟩ n).run P w = .ok (c.extract off (off + n)) w := by
  have hl : ((c.extract off (off + n)).toList).length = n := by simp; omega
  have h := run_loadCells_list (P := P) w ⟨b, off, none⟩ (c.extract off (off + n)).toList (fun j v hv => by
    rw [add_mk]
    simp only [World.cell?, hb]
    have hj : j < n := by
      have := (List.getElem?_eq_some_iff.1 hv).1
      omega
    simp only [Array.getElem?_toList] at hv
    rw [Array.getElem?_extract] at hv
    have h2 : j < min (off + n) c.size - off := by omega
    rw [if_pos h2] at hv
    simpa using hv)
  rw [hl, Array.toArray_toList] at h
  exact h
theorem run_loadVar_agg (h : AggT P T n) (w : World) (b off : Nat) (c : Array Value) (e : TypeId) (fr : Nat × Nat) (hb : w.heap[b]? = some (.cells c e fr)) (hin : off + n ≤ c.size) :
    (loadVar T ⟨b, off, none⟩).run P w = .ok (.agg (c.extract off (off + n))) w := by
  simp [loadVar, Sem.run_bind, run_isAgg h, run_sizeOf h, run_loadCells_block w b off n c e fr hb hin]
/-- The row c with vs laid at off. -/
def spl (c : Array Value) (off : Nat) (vs : Array Value) : Array Value := (c.toList.take off ++ vs.toList ++ c.toList.drop (off + vs.size)).toArray
theorem size_spl (c : Array Value) (off : Nat) (vs : Array Value) (h : off + vs.size ≤ c.size) : (spl c off vs).size = c.size := by
  simp [spl]; omega
theorem run_storeVar_agg (h : AggT P T n) (w : World) (b off : Nat) (c : Array Value) (e : TypeId) (hb : w.heap[b]? = some (.cells c e (0, 0))) (vs : Array Value) (hn : vs.size = n) (hin : off + n ≤ c.size)
    (h1 : ∀ v ∈ vs.toList, v.oneCell' = true) : (storeVar T ⟨b, off, none⟩ (.agg vs)).run P w = .ok () (w.setRow b (spl c off vs)) := by
  have hst := run_storeCells_at P b off e vs.toList 0 c w hb (by simp; omega) h1
  simp only [storeVar, Value.cells, hn, Sem.run_bind, run_sizeOf h, Result.andThen_ok, ne_eq, not_true, if_false]
  simpa [spl] using hst
end agg

section ops
variable {P : Program} {ops : Array Oper} {rest : List Oper} {o : Oper} {a : Act} {w : World} {Q : Exit → Act → World → Prop}
/-- Whatever an operation's run comes to as a value. -/
theorem wc_value (hgd : o.guard = none) {v : Value} {w' : World} (hrun : (execOp a.eval o).run P w = .ok (.value v) w') (h : wpList P ops Q rest (a.put o.dst v) w') : wpList P ops Q (o :: rest) a w :=
  wpList_plain hgd fun K hK => by unfold Oper.wp; rw [hrun, Oper.upon_value]; exact hK _ _ h
/-- The same under a guard that lets it by. -/
theorem wcg_value (hw : Region.wanted o (yielded ops a.tmps) = true) {v : Value} {w' : World} (hrun : (execOp a.eval o).run P w = .ok (.value v) w') (h : wpList P ops Q rest (a.put o.dst v) w') : wpList P ops Q (o :: rest) a w :=
  wpList_step fun K hK => by rw [if_pos hw]; unfold Oper.wp; rw [hrun, Oper.upon_value]; exact hK _ _ h
theorem wc_done (hgd : o.guard = none) {w' : World} (hrun : (execOp a.eval o).run P w = .ok .skip w') (h : wpList P ops Q rest (a.put o.dst undef) w') : wpList P ops Q (o :: rest) a w :=
  wpList_plain hgd fun K hK => by unfold Oper.wp; rw [hrun, Oper.upon_skip]; exact hK _ _ h
/-- The same inside a region of which nothing writes. -/
theorem ws_value {Qs : Act → Prop} (hgd : o.guard = none) {v : Value} (hrun : (execOp a.eval o).run P w = .ok (.value v) w) (h : wpStill P ops w Qs rest (a.put o.dst v)) : wpStill P ops w Qs (o :: rest) a := by
  refine wpStill_step fun K hK => ?_
  simp only [Region.wanted, hgd, if_true]
  unfold Oper.still
  rw [hrun, Oper.stillUpon_value]
  exact hK _ h

theorem exec_load_agg {T : TypeId} {n : Nat} (hT : AggT P T n) {x : Operand} (ho : o.op = .load T x) {b off : Nat} (hx : a.eval x = .pointer (some ⟨b, off, none⟩))
    {c : Array Value} {e : TypeId} {fr : Nat × Nat} (hb : w.heap[b]? = some (.cells c e fr)) (hin : off + n ≤ c.size) :
    (execOp a.eval o).run P w = .ok (.value (.agg (c.extract off (off + n)))) w := by
  unfold execOp
  simp [ho, hx, Instr.loadAt, Instr.sureAddr, run_loadVar_agg hT w b off c e fr hb hin]
theorem exec_store_agg {T : TypeId} {n : Nat} (hT : AggT P T n) {x y : Operand} (ho : o.op = .store T x y) {b off : Nat} (hx : a.eval x = .pointer (some ⟨b, off, none⟩))
    {vs : Array Value} (hy : a.eval y = .agg vs) (hn : vs.size = n) (h1 : ∀ v ∈ vs.toList, v.oneCell' = true)
    {c : Array Value} {e : TypeId} (hb : w.heap[b]? = some (.cells c e (0, 0))) (hin : off + n ≤ c.size) :
    (execOp a.eval o).run P w = .ok .skip (w.setRow b (spl c off vs)) := by
  unfold execOp
  simp [ho, hx, hy, Instr.storeAt, Instr.sureAddr, run_storeVar_agg hT w b off c e hb vs hn hin h1]
theorem exec_alloc {T : TypeId} {x : Value} {i : TypeInfo} (hi : P.info? T = some i) (hz : i.zero = some x) (ho : o.op = .alloc T) :
    (execOp a.eval o).run P w = .ok (.value (.pointer (some ⟨w.heap.size, 0, none⟩))) (w.alloc (.cells x.cells T)) := by
  unfold execOp
  simp [ho, Instr.alloc, zeroValue, typeInfo, hi, hz, newVar, newRow]
theorem exec_box {T : TypeId} {x : Operand} (ho : o.op = .box T x) :
    (execOp a.eval o).run P w = .ok (.value (.pointer (some ⟨w.heap.size, 0, none⟩))) (w.alloc (.cells (a.eval x).cells T)) := by
  unfold execOp
  simp [ho, Instr.box, newVar, newRow]
/-- An aggregate that is written out with no part: its zero value. -/
theorem exec_build_zero {T : TypeId} {cs : Array Value} {i : TypeInfo} (hi : P.info? T = some i) (hz : i.zero = some (.agg cs)) {len : Nat} {el : TypeId} (hu : P.underlying T = some (.array len el)) {ie : TypeInfo} (hie : P.info? el = some ie) (ho : o.op = .build T #[]) :
    (execOp a.eval o).run P w = .ok (.value (.agg cs)) w := by
  unfold execOp
  simp [ho, Instr.build, zeroValue, typeInfo, hi, hz, run_underlying hu, sizeOf, hie, Instr.fill, Value.cells]
end ops

theorem setRow_alloc_new (w : World) (c c' : Array Value) (e : TypeId) : (w.alloc (.cells c e)).setRow w.heap.size c' = w.alloc (.cells c' e) := by
  unfold World.setRow World.alloc
  congr 1
  apply Array.ext_getElem?
  intro k
  rw [Array.getElem?_modify]
  by_cases hk : w.heap.size = k
  · subst hk; simp
  · have hk' : k ≠ w.heap.size := fun e => hk e.symm
    simp [hk, hk', Array.getElem?_push]

/-- Two results, of which the first lies in a variable's cells. -/
theorem res_cell_tmp {P : Program} {fn : Func} {p t : Tmp} {T : TypeId} {n : Nat} (hT : AggT P T n) (h : fn.results = #[.cell p T, .tmp t]) (tmps : Array Value) {w : World} {b : Nat} {c : Array Value} {e : TypeId} {fr : Nat × Nat}
    (hp : tmps.getD p undef = .pointer (some ⟨b, 0, none⟩)) (hb : w.heap[b]? = some (.cells c e fr)) (hc : c.size = n) : (results fn tmps).run P w = .ok (.tuple #[.agg c, tmps.getD t undef]) w := by
  have hl := run_loadVar_agg (P := P) hT w b 0 c e fr hb (by omega)
  rw [Nat.zero_add, ← hc, Array.extract_size] at hl
  have hp' : tmps[p]?.getD undef = .pointer (some ⟨b, 0, none⟩) := by simpa using hp
  simp [results, h, hp', asAddr, hl]
/-- One result, in a variable's cells. -/
theorem res_cell {P : Program} {fn : Func} {p : Tmp} {T : TypeId} {n : Nat} (hT : AggT P T n) (h : fn.results = #[.cell p T]) (tmps : Array Value) {w : World} {b : Nat} {c : Array Value} {e : TypeId} {fr : Nat × Nat}
    (hp : tmps.getD p undef = .pointer (some ⟨b, 0, none⟩)) (hb : w.heap[b]? = some (.cells c e fr)) (hc : c.size = n) : (results fn tmps).run P w = .ok (.agg c) w := by
  have hl := run_loadVar_agg (P := P) hT w b 0 c e fr hb (by omega)
  rw [Nat.zero_add, ← hc, Array.extract_size] at hl
  have hp' : tmps[p]?.getD undef = .pointer (some ⟨b, 0, none⟩) := by simpa using hp
  simp [results, h, hp', asAddr, hl]

section rows
/-- Elements one behind the other. -/
def rowsA (ls : List (Array Value)) : Array Value := (ls.flatMap Array.toList).toArray
variable {k : Nat} {ls : List (Array Value)}
theorem length_flat : ∀ {ls : List (Array Value)}, (∀ x ∈ ls, x.size = k) → (ls.flatMap Array.toList).length = ls.length * k
  | [], _ => by simp
  | x :: r, h => by
    rw [List.flatMap_cons, List.length_append, length_flat (fun y hy => h y (by simp [hy])), List.length_cons, Nat.succ_mul, Array.length_toList, h x (by simp)]
    omega
theorem size_rowsA (h : ∀ x ∈ ls, x.size = k) : (rowsA ls).size = ls.length * k := by
  simp only [rowsA, List.size_toArray]; exact length_flat h
theorem flat_split : ∀ {ls : List (Array Value)} (i : Nat), (∀ x ∈ ls, x.size = k) → ∀ x, ls[i]? = some x →
    ls.flatMap Array.toList = (ls.take i).flatMap Array.toList ++ (x.toList ++ (ls.drop (i + 1)).flatMap Array.toList)
  | [], _, _, _, h => by simp at h
  | y :: r, 0, _, x, h => by simp at h; subst h; simp
  | y :: r, i + 1, hk, x, h => by
    simp only [List.getElem?_cons_succ] at h
    have := flat_split i (fun z hz => hk z (by simp [hz])) x h
    simp only [List.flatMap_cons, List.take_succ_cons, List.drop_succ_cons, this, List.append_assoc]
theorem rowsA_extract (h : ∀ x ∈ ls, x.size = k) {i : Nat} {x : Array Value} (hx : ls[i]? = some x) : (rowsA ls).extract (i * k) (i * k + k) = x := by
  have hi := (List.getElem?_eq_some_iff.1 hx).1
  have hl : ((ls.take i).flatMap Array.toList).length = i * k := by
    rw [length_flat (k := k) (fun y hy => h y (List.mem_of_mem_take hy)), List.length_take, Nat.min_eq_left (by omega)]
  have hxs : x.toList.length = k := by rw [Array.length_toList]; exact h x (List.mem_of_getElem? hx)
  apply Array.toList_inj.1
  rw [Array.toList_extract, List.extract_eq_take_drop]
  simp only [rowsA]
  rw [flat_split i h x hx, show i * k + k - i * k = k by omega, ← hl, List.drop_left, ← hxs, List.take_left]
theorem rowsA_spl (h : ∀ x ∈ ls, x.size = k) {i : Nat} (hi : i < ls.length) (v : Array Value) (hv : v.size = k) : spl (rowsA ls) (i * k) v = rowsA (ls.set i v) := by
  obtain ⟨x, hx⟩ : ∃ x, ls[i]? = some x := ⟨ls[i], by simp [hi]⟩
  have hl : ((ls.take i).flatMap Array.toList).length = i * k := by
    rw [length_flat (k := k) (fun y hy => h y (List.mem_of_mem_take hy)), List.length_take, Nat.min_eq_left (by omega)]
  have hxs : x.toList.length = k := by rw [Array.length_toList]; exact h x (List.mem_of_getElem? hx)
  have h' : ∀ y ∈ ls.set i v, y.size = k := fun y hy => (List.mem_or_eq_of_mem_set hy).elim (h y) (fun e => e ▸ hv)
  have hx' : (ls.set i v)[i]? = some v := by simp [hi]
  unfold spl rowsA
  rw [flat_split i h' v hx', List.take_set_of_le (Nat.le_refl i), List.drop_set_of_lt (by omega)]
  simp only
  rw [flat_split i h x hx]
  congr 1
  rw [← hl, List.take_left, hv]
  rw [List.append_assoc]
  congr 2
  rw [hl, ← hl, ← hxs, ← List.drop_drop, List.drop_left, List.drop_left]
theorem rowsA_append (a b : List (Array Value)) : rowsA (a ++ b) = rowsA a ++ rowsA b := by simp [rowsA]
theorem rowsA_cell (h : ∀ x ∈ ls, x.size = k) {i j : Nat} {x : Array Value} (hx : ls[i]? = some x) (hj : j < k) : (rowsA ls)[i * k + j]? = x[j]? := by
  have e := rowsA_extract h hx
  have hi := (List.getElem?_eq_some_iff.1 hx).1
  have hs := size_rowsA h
  have hle : i * k + k ≤ (rowsA ls).size := by rw [hs, ← Nat.succ_mul]; exact Nat.mul_le_mul_right k hi
  rw [← e, Array.getElem?_extract, if_pos (by omega)]
end rows
/-- How far a loop has come. -/
def OnAt (len : Nat) (i : Value) (k j : Nat) : Prop := j ≤ len ∧ i = .int .i64 j ∧ k = len - j
end Go.Cib
