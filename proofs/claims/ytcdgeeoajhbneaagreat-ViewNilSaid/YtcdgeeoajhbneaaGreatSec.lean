/-
  Small laws, for any program: arrays of bytes as lists of bytes; sectors.
-/
import Derived.Test.YtcdgeeoajhbneaaGreatMap
namespace Go.Cib
open Go Go.RowKit

def bv (b : UInt8) : Value := .int .u8 b.toNat
theorem bv_inj {a b : UInt8} (h : bv a = bv b) : a = b := by
  simp only [bv, Value.int.injEq, true_and] at h
  exact UInt8.toNat_inj.1 (by omega)
def bytesA (l : List UInt8) : Array Value := (l.map bv).toArray
@[simp] theorem size_bytesA (l : List UInt8) : (bytesA l).size = l.length := by simp [bytesA]
theorem bytesA_inj {a b : List UInt8} (h : bytesA a = bytesA b) : a = b := by
  have h' : a.map bv = b.map bv := by simpa [bytesA] using h
  exact (List.map_inj_right (fun _ _ => bv_inj)).1 h'
theorem bytesA_one (l : List UInt8) : ∀ v ∈ (bytesA l).toList, v.oneCell' = true := by
  intro v hv
  simp only [bytesA, List.mem_map] at hv
  obtain ⟨b, _, rfl⟩ := hv
  rfl
theorem bytesA_get (l : List UInt8) (i : Nat) : (bytesA l)[i]? = (l[i]?).map bv := by simp [bytesA]
theorem bytesA_set (l : List UInt8) (i : Nat) (b : UInt8) : (bytesA l).setIfInBounds i (bv b) = bytesA (l.set i b) := by
  simp [bytesA]
theorem bytesA_append (a b : List UInt8) : bytesA (a ++ b) = bytesA a ++ bytesA b := by simp [bytesA]
theorem bytesA_extract (l : List UInt8) (i j : Nat) : (bytesA l).extract i j = bytesA ((l.take j).drop i) := by
  apply Array.toList_inj.1
  simp only [bytesA, Array.toList_extract, List.extract_eq_take_drop]
  rw [← List.map_drop, ← List.map_take, List.drop_take]
theorem spl_bytesA (l : List UInt8) (off : Nat) (m : List UInt8) : spl (bytesA l) off (bytesA m) = bytesA (l.take off ++ m ++ l.drop (off + m.length)) := by
  simp [spl, bytesA]

/-- T is a type of arrays of n bytes. -/
structure BytesT (P : Program) (T : TypeId) (n : Nat) : Prop where
  und : ∃ E i, P.underlying T = some (.array n E) ∧ P.underlying E = some (.int .u8) ∧ P.info? E = some i ∧ i.size = 1
  info : ∃ i, P.info? T = some i ∧ i.size = n ∧ i.bytes = n ∧ i.zero = some (.agg (bytesA (List.replicate n 0)))
  plain : P.eqGuardType P.depth T = false

section
variable {P : Program} {T : TypeId} {n : Nat}
theorem BytesT.of {E : TypeId} (h1 : P.underlying T = some (.array n E)) (h2 : P.underlying E = some (.int .u8)) (h3 : (P.info? E).map (·.size) = some 1)
    (h4 : (P.info? T).map (fun i => (i.size, i.bytes, i.zero)) = some (n, n, some (.agg (bytesA (List.replicate n 0))))) (h5 : P.eqGuardType P.depth T = false) : BytesT P T n := by
  obtain ⟨i, hi, hi2⟩ := Option.map_eq_some_iff.1 h3
  obtain ⟨j, hj, hj2⟩ := Option.map_eq_some_iff.1 h4
  simp only [Prod.mk.injEq] at hj2
  exact ⟨⟨E, i, h1, h2, hi, hi2⟩, ⟨j, hj, hj2⟩, h5⟩
theorem BytesT.agg (h : BytesT P T n) : AggT P T n :=
  ⟨by obtain ⟨E, i, h1, _⟩ := h.und; exact ⟨_, h1, rfl⟩, by obtain ⟨i, h1, h2, _⟩ := h.info; exact ⟨i, h1, h2⟩⟩
theorem BytesT.zero (h : BytesT P T n) (w : World) : (zeroValue T).run P w = .ok (.agg (bytesA (List.replicate n 0))) w := by
  obtain ⟨i, h1, _, _, h2⟩ := h.info
  simp [zeroValue, typeInfo, h1, h2]

theorem run_part_byte {E : TypeId} {i : TypeInfo} (hE : P.underlying E = some (.int .u8)) (_hi : P.info? E = some i) (w : World) (l : List UInt8) (j : Nat) (b : UInt8) (hb : l[j]? = some b) :
    (part E (bytesA l) j).run P w = .ok (bv b) w := by
  have hagg : (isAgg E).run P w = .ok false w := by unfold isAgg; rw [Sem.run_bind, run_underlying hE w]; rfl
  unfold part
  rw [Sem.run_bind, hagg]
  simp [bytesA_get, hb]

theorem run_equalIn_byte {E : TypeId} (hE : P.underlying E = some (.int .u8)) (d : Nat) (w : World) (a b : UInt8) : (Op.equalIn (d + 1) E (bv a) (bv b)).run P w = .ok (decide (a = b)) w := by
  have := run_equalIn_int (P := P) w d E .u8 .u8 a.toNat b.toNat hE
  simp only [bv, this]
  congr 1
  by_cases h : a = b
  · simp [h]
  · have : ¬ ((a.toNat : Int) = b.toNat) := fun e => h (UInt8.toNat_inj.1 (by omega))
    simp [h, this]

theorem run_eqLoop {E : TypeId} {i : TypeInfo} (hE : P.underlying E = some (.int .u8)) (hi : P.info? E = some i) (hs : i.size = 1) (d : Nat) (w : World) (xs ys : List UInt8) : ∀ (m k : Nat), k + m = xs.length → xs.length = ys.length →
    Sem.run P (forIn (List.range' k m) (none, PUnit.unit) fun j (_ : Option Bool × PUnit) => do
        let a ← part E (bytesA xs) (j * i.size)
        let b ← part E (bytesA ys) (j * i.size)
        let r ← Op.equalIn (d + 1) E a b
        if (!r) = true then pure (.done (some false, PUnit.unit)) else pure (.yield (none, PUnit.unit))) w = .ok (if xs.drop k = ys.drop k then none else some false, PUnit.unit) w
  | 0, k, h1, h2 => by
    simp only [List.range'_zero, List.forIn_nil, Sem.run_pure]
    rw [List.drop_of_length_le (by omega), List.drop_of_length_le (by omega)]
    simp
  | m + 1, k, h1, h2 => by
    have hkx : k < xs.length := by omega
    have hky : k < ys.length := by omega
    have hx : xs[k]? = some xs[k] := by simp
    have hy : ys[k]? = some ys[k] := by simp
    have ih := run_eqLoop hE hi hs d w xs ys m (k + 1) (by omega) h2
    have e1 : xs.drop k = xs[k] :: xs.drop (k + 1) := by rw [List.drop_eq_getElem_cons (by omega)]
    have e2 : ys.drop k = ys[k] :: ys.drop (k + 1) := by rw [List.drop_eq_getElem_cons (by omega)]
    have hpx := run_part_byte hE hi w xs k _ hx
    have hpy := run_part_byte hE hi w ys k _ hy
    have he := run_equalIn_byte (P := P) hE d w xs[k] ys[k]
    simp only [List.range'_succ, List.forIn_cons, hs, Nat.mul_one, Sem.run_bind, Result.andThen_ok, hpx, hpy, he, Sem.run_ite] at ih ⊢
    rw [e1, e2]
    by_cases hc : xs[k] = ys[k]
    · simp only [hc, decide_true, Bool.not_true, Bool.false_eq_true, if_false, Sem.run_pure, Result.andThen_ok, List.cons.injEq, true_and]
      exact ih
    · simp only [hc, decide_false, Bool.not_false, if_true, Sem.run_pure, Result.andThen_ok, List.cons.injEq, false_and, if_false]

theorem run_equal_bytes (h : BytesT P T n) (w : World) (xs ys : List UInt8) (hx : xs.length = n) (hy : ys.length = n) :
    (Op.equal T (.agg (bytesA xs)) (.agg (bytesA ys))).run P w = .ok (decide (xs = ys)) w := by
  obtain ⟨E, i, h1, h2, h3, h4⟩ := h.und
  have hl := run_eqLoop (P := P) h2 h3 h4 9998 w xs ys n 0 (by omega) (by omega)
  simp only [List.drop_zero] at hl
  show (Op.equalIn (9999 + 1) T _ _).run P w = _
  unfold Op.equalIn
  simp only [Sem.run_bind, run_underlying h1, Result.andThen_ok, sizeOf, typeInfo, run_program, h3, Sem.run_pure, Std.Legacy.Range.forIn_eq_forIn_range', Std.Legacy.Range.size]
  simp only [Nat.sub_zero, Nat.add_sub_cancel, Nat.div_one, hl, Result.andThen_ok]
  by_cases hc : xs = ys <;> simp [hc]

theorem exec_eql_bytes {o : Oper} {a : Act} {w : World} (h : BytesT P T n) {x y : Operand} {yt : TypeId} (ho : o.op = .binOp .eql T x y yt) {xs ys : List UInt8} (hx : a.eval x = .agg (bytesA xs)) (hy : a.eval y = .agg (bytesA ys)) (lx : xs.length = n) (ly : ys.length = n) :
    (execOp a.eval o).run P w = .ok (.value (.bool (decide (xs = ys)))) w := by
  have he := run_equal_bytes h w xs ys lx ly
  unfold execOp
  simp [ho, hx, hy, eqGuard, h.plain, binOp, he]
theorem exec_neq_bytes {o : Oper} {a : Act} {w : World} (h : BytesT P T n) {x y : Operand} {yt : TypeId} (ho : o.op = .binOp .neq T x y yt) {xs ys : List UInt8} (hx : a.eval x = .agg (bytesA xs)) (hy : a.eval y = .agg (bytesA ys)) (lx : xs.length = n) (ly : ys.length = n) :
    (execOp a.eval o).run P w = .ok (.value (.bool (!decide (xs = ys)))) w := by
  have he := run_equal_bytes h w xs ys lx ly
  unfold execOp
  simp [ho, hx, hy, eqGuard, h.plain, binOp, he]
end

/-- An array of n bytes. -/
structure Arr (n : Nat) where
  l : List UInt8
  h : l.length = n
abbrev Sec := Arr 512
variable {n : Nat}
theorem Arr.ext' {a b : Arr n} (h : a.l = b.l) : a = b := by cases a; cases b; cases h; rfl
instance : DecidableEq (Arr n) := fun a b => if h : a.l = b.l then .isTrue (Arr.ext' h) else .isFalse (fun e => h (e ▸ rfl))
def secA (s : Arr n) : Array Value := bytesA s.l
@[simp] theorem size_secA (s : Arr n) : (secA s).size = n := by simp [secA, s.h]
theorem secA_inj {a b : Arr n} (h : secA a = secA b) : a = b := Arr.ext' (bytesA_inj h)
theorem secA_one (s : Arr n) : ∀ v ∈ (secA s).toList, v.oneCell' = true := bytesA_one s.l
def Arr.zero : Arr n := ⟨List.replicate n 0, List.length_replicate⟩
/-- An array that begins with a text's bytes. -/
def Arr.text (s : List UInt8) : Arr n := ⟨s.take n ++ List.replicate (n - s.length) 0, by rw [List.length_append, List.length_take, List.length_replicate]; omega⟩
def secsA (ls : List (Arr n)) : Array Value := rowsA (ls.map secA)
theorem secs_sizes (ls : List (Arr n)) : ∀ x ∈ ls.map secA, x.size = n := by
  intro x hx
  obtain ⟨s, _, rfl⟩ := List.mem_map.1 hx
  simp
@[simp] theorem size_secsA (ls : List (Arr n)) : (secsA ls).size = ls.length * n := by
  unfold secsA
  rw [size_rowsA (secs_sizes ls), List.length_map]
theorem secsA_extract {ls : List (Arr n)} {i : Nat} {s : Arr n} (h : ls[i]? = some s) : (secsA ls).extract (i * n) (i * n + n) = secA s :=
  rowsA_extract (secs_sizes ls) (by simp [h])
theorem secsA_spl {ls : List (Arr n)} {i : Nat} (h : i < ls.length) (s : Arr n) : spl (secsA ls) (i * n) (secA s) = secsA (ls.set i s) := by
  unfold secsA
  rw [rowsA_spl (secs_sizes ls) (by simpa using h) _ (by simp), List.map_set]
theorem secsA_one (ls : List (Arr n)) : ∀ v ∈ (secsA ls).toList, v.oneCell' = true := by
  intro v hv
  simp only [secsA, rowsA, List.mem_flatMap, List.mem_map] at hv
  obtain ⟨x, ⟨s, _, rfl⟩, hx⟩ := hv
  exact secA_one s v hx
theorem extract_all (s : Arr n) : (secA s).extract 0 (0 + n) = secA s := by
  have : (secA s).size = n := size_secA s
  have h2 := Array.extract_size (xs := secA s)
  rw [this] at h2
  rw [Nat.zero_add]
  exact h2
theorem spl_all (s t : Arr n) : spl (secA s) 0 (secA t) = secA t := by
  apply Array.toList_inj.1
  simp only [spl, List.take_zero, List.nil_append, size_secA, Nat.zero_add]
  rw [List.drop_of_length_le (by simp)]
  simp

section ops
variable {P : Program} {T : TypeId} {ops : Array Oper} {rest : List Oper} {a : Act} {w : World} {Q : Exit → Act → World → Prop} {dst : Option Tmp} {ty : TypeId} {pos : String} {af : Array Edge} {x y : Operand}
theorem mul_in {i m k : Nat} (h : i < m) : i * k + k ≤ m * k := by rw [← Nat.succ_mul]; exact Nat.mul_le_mul_right k h
theorem wc_alloc_arr (hT : BytesT P T n) (h : wpList P ops Q rest (a.put dst (.pointer (some ⟨w.heap.size, 0, none⟩))) (w.alloc (.cells (secA (Arr.zero : Arr n)) T))) :
    wpList P ops Q (⟨dst, .alloc T, ty, pos, af, none⟩ :: rest) a w := by
  obtain ⟨i, h1, _, _, h2⟩ := hT.info
  exact wc_value rfl (exec_alloc h1 h2 rfl) h
theorem wc_build_arr (hT : BytesT P T n) {ps : Array (Nat × Operand)} (hp : ps = #[]) (h : wpList P ops Q rest (a.put dst (.agg (secA (Arr.zero : Arr n)))) w) :
    wpList P ops Q (⟨dst, .build T ps, ty, pos, af, none⟩ :: rest) a w := by
  subst hp
  obtain ⟨i, h1, _, _, h2⟩ := hT.info
  obtain ⟨E, j, g1, _, g2, _⟩ := hT.und
  exact wc_value rfl (exec_build_zero h1 h2 g1 g2 rfl) h
/-- Stored into the variable that was made last. -/
theorem wc_store_new (hT : BytesT P T n) {s0 s : Arr n} {e : TypeId} (hx : a.eval x = .pointer (some ⟨w.heap.size, 0, none⟩)) (hy : a.eval y = .agg (secA s))
    (h : wpList P ops Q rest (a.put dst undef) (w.alloc (.cells (secA s) e))) : wpList P ops Q (⟨dst, .store T x y, ty, pos, af, none⟩ :: rest) a (w.alloc (.cells (secA s0) e)) := by
  refine wc_done rfl ?_ h
  rw [exec_store_agg hT.agg rfl hx hy (by simp) (secA_one s) (heap_alloc_new w _) (by simp), spl_all, setRow_alloc_new]
/-- Stored into a variable. -/
theorem wc_store_var (hT : BytesT P T n) {b : Nat} {s0 s : Arr n} {e : TypeId} (hb : w.heap[b]? = some (.cells (secA s0) e)) (hx : a.eval x = .pointer (some ⟨b, 0, none⟩)) (hy : a.eval y = .agg (secA s))
    (h : wpList P ops Q rest (a.put dst undef) (w.setRow b (secA s))) : wpList P ops Q (⟨dst, .store T x y, ty, pos, af, none⟩ :: rest) a w := by
  refine wc_done rfl ?_ h
  rw [exec_store_agg hT.agg rfl hx hy (by simp) (secA_one s) hb (by simp), spl_all]
theorem exec_load_var (hT : BytesT P T n) {b : Nat} {s : Arr n} {e : TypeId} {fr : Nat × Nat} {o : Oper} (ho : o.op = .load T x) (hb : w.heap[b]? = some (.cells (secA s) e fr)) (hx : a.eval x = .pointer (some ⟨b, 0, none⟩)) :
    (execOp a.eval o).run P w = .ok (.value (.agg (secA s))) w := by
  rw [exec_load_agg hT.agg ho hx hb (by simp), extract_all]
theorem wc_load_var (hT : BytesT P T n) {b : Nat} {s : Arr n} {e : TypeId} {fr : Nat × Nat} (hb : w.heap[b]? = some (.cells (secA s) e fr)) (hx : a.eval x = .pointer (some ⟨b, 0, none⟩))
    (h : wpList P ops Q rest (a.put dst (.agg (secA s))) w) : wpList P ops Q (⟨dst, .load T x, ty, pos, af, none⟩ :: rest) a w :=
  wc_value rfl (exec_load_var hT rfl hb hx) h
theorem wcg_load_var (hT : BytesT P T n) {b : Nat} {s : Arr n} {e : TypeId} {fr : Nat × Nat} {gd : Option (Nat × Bool)} (hb : w.heap[b]? = some (.cells (secA s) e fr)) (hw : Region.wanted ⟨dst, .load T x, ty, pos, af, gd⟩ (yielded ops a.tmps) = true) (hx : a.eval x = .pointer (some ⟨b, 0, none⟩))
    (h : wpList P ops Q rest (a.put dst (.agg (secA s))) w) : wpList P ops Q (⟨dst, .load T x, ty, pos, af, gd⟩ :: rest) a w :=
  wcg_value hw (exec_load_var hT rfl hb hx) h
theorem wc_load_new (hT : BytesT P T n) {s : Arr n} {e : TypeId} (hx : a.eval x = .pointer (some ⟨w.heap.size, 0, none⟩))
    (h : wpList P ops Q rest (a.put dst (.agg (secA s))) (w.alloc (.cells (secA s) e))) : wpList P ops Q (⟨dst, .load T x, ty, pos, af, none⟩ :: rest) a (w.alloc (.cells (secA s) e)) :=
  wc_value rfl (exec_load_var hT rfl (heap_alloc_new w _) hx) h
theorem ws_load_var {Qs : Act → Prop} (hT : BytesT P T n) {b : Nat} {s : Arr n} {e : TypeId} {fr : Nat × Nat} (hb : w.heap[b]? = some (.cells (secA s) e fr)) (hx : a.eval x = .pointer (some ⟨b, 0, none⟩))
    (h : wpStill P ops w Qs rest (a.put dst (.agg (secA s)))) : wpStill P ops w Qs (⟨dst, .load T x, ty, pos, af, none⟩ :: rest) a :=
  ws_value rfl (exec_load_var hT rfl hb hx) h
/-- One of a row. -/
theorem exec_load_row (hT : BytesT P T n) {b i : Nat} {ls : List (Arr n)} {s : Arr n} {e : TypeId} {fr : Nat × Nat} {o : Oper} (ho : o.op = .load T x) (hb : w.heap[b]? = some (.cells (secsA ls) e fr)) (hi : ls[i]? = some s) (hx : a.eval x = .pointer (some ⟨b, i * n, none⟩)) :
    (execOp a.eval o).run P w = .ok (.value (.agg (secA s))) w := by
  have hl := mul_in (k := n) (List.getElem?_eq_some_iff.1 hi).1
  rw [exec_load_agg hT.agg ho hx hb (by simp; omega), secsA_extract hi]
theorem wc_load_row (hT : BytesT P T n) {b i : Nat} {ls : List (Arr n)} {s : Arr n} {e : TypeId} {fr : Nat × Nat} (hb : w.heap[b]? = some (.cells (secsA ls) e fr)) (hi : ls[i]? = some s) (hx : a.eval x = .pointer (some ⟨b, i * n, none⟩))
    (h : wpList P ops Q rest (a.put dst (.agg (secA s))) w) : wpList P ops Q (⟨dst, .load T x, ty, pos, af, none⟩ :: rest) a w :=
  wc_value rfl (exec_load_row hT rfl hb hi hx) h
theorem ws_load_row {Qs : Act → Prop} (hT : BytesT P T n) {b i : Nat} {ls : List (Arr n)} {s : Arr n} {e : TypeId} {fr : Nat × Nat} (hb : w.heap[b]? = some (.cells (secsA ls) e fr)) (hi : ls[i]? = some s) (hx : a.eval x = .pointer (some ⟨b, i * n, none⟩))
    (h : wpStill P ops w Qs rest (a.put dst (.agg (secA s)))) : wpStill P ops w Qs (⟨dst, .load T x, ty, pos, af, none⟩ :: rest) a :=
  ws_value rfl (exec_load_row hT rfl hb hi hx) h
theorem wc_store_row (hT : BytesT P T n) {b i : Nat} {ls : List (Arr n)} {s : Arr n} {e : TypeId} (hb : w.heap[b]? = some (.cells (secsA ls) e)) (hi : i < ls.length) (hx : a.eval x = .pointer (some ⟨b, i * n, none⟩)) (hy : a.eval y = .agg (secA s))
    (h : wpList P ops Q rest (a.put dst undef) (w.setRow b (secsA (ls.set i s)))) : wpList P ops Q (⟨dst, .store T x y, ty, pos, af, none⟩ :: rest) a w := by
  have hl := mul_in (k := n) hi
  refine wc_done rfl ?_ h
  rw [exec_store_agg hT.agg rfl hx hy (by simp) (secA_one s) hb (by simp; omega), secsA_spl hi]
theorem decide_arr (s t : Arr n) : decide (s.l = t.l) = decide (s = t) := by
  by_cases h : s = t
  · simp [h]
  · have : ¬ s.l = t.l := fun e => h (Arr.ext' e)
    simp [h, this]
theorem wc_eql_arr (hT : BytesT P T n) {yt : TypeId} {s t : Arr n} (hx : a.eval x = .agg (secA s)) (hy : a.eval y = .agg (secA t))
    (h : wpList P ops Q rest (a.put dst (.bool (decide (s = t)))) w) : wpList P ops Q (⟨dst, .binOp .eql T x y yt, ty, pos, af, none⟩ :: rest) a w := by
  rw [← decide_arr] at h
  exact wc_value rfl (exec_eql_bytes hT rfl hx hy s.h t.h) h
theorem wcg_eql_arr (hT : BytesT P T n) {yt : TypeId} {s t : Arr n} {gd : Option (Nat × Bool)} (hw : Region.wanted ⟨dst, .binOp .eql T x y yt, ty, pos, af, gd⟩ (yielded ops a.tmps) = true) (hx : a.eval x = .agg (secA s)) (hy : a.eval y = .agg (secA t))
    (h : wpList P ops Q rest (a.put dst (.bool (decide (s = t)))) w) : wpList P ops Q (⟨dst, .binOp .eql T x y yt, ty, pos, af, gd⟩ :: rest) a w := by
  rw [← decide_arr] at h
  exact wcg_value hw (exec_eql_bytes hT rfl hx hy s.h t.h) h
theorem wcg_neq_arr (hT : BytesT P T n) {yt : TypeId} {s t : Arr n} {gd : Option (Nat × Bool)} (hw : Region.wanted ⟨dst, .binOp .neq T x y yt, ty, pos, af, gd⟩ (yielded ops a.tmps) = true) (hx : a.eval x = .agg (secA s)) (hy : a.eval y = .agg (secA t))
    (h : wpList P ops Q rest (a.put dst (.bool (!decide (s = t)))) w) : wpList P ops Q (⟨dst, .binOp .neq T x y yt, ty, pos, af, gd⟩ :: rest) a w := by
  rw [← decide_arr] at h
  exact wcg_value hw (exec_neq_bytes hT rfl hx hy s.h t.h) h
theorem wc_neq_arr (hT : BytesT P T n) {yt : TypeId} {s t : Arr n} (hx : a.eval x = .agg (secA s)) (hy : a.eval y = .agg (secA t))
    (h : wpList P ops Q rest (a.put dst (.bool (!decide (s = t)))) w) : wpList P ops Q (⟨dst, .binOp .neq T x y yt, ty, pos, af, none⟩ :: rest) a w := by
  rw [← decide_arr] at h
  exact wc_value rfl (exec_neq_bytes hT rfl hx hy s.h t.h) h
end ops
end Go.Cib
