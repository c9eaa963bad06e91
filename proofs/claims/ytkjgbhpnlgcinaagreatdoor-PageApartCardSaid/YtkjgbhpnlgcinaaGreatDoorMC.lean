/-
  Small laws, for any program: a row's head that holds arrays.
-/
import Derived.Test.YtkjgbhpnlgcinaaGreatDoorMB
import Derived.StillTailTactics
namespace Go.Cib
open Go Go.RowKit
/-- b's first cells are the arrays ls. -/
def SecsIn {n : Nat} (w : World) (b : Nat) (ls : List (Arr n)) : Prop := ∃ cur e, w.heap[b]? = some (.cells cur e) ∧ ls.length * n ≤ cur.size ∧ cur.extract 0 (ls.length * n) = secsA ls
theorem secsIn_whole {n : Nat} {w : World} {b : Nat} {ls : List (Arr n)} {e : TypeId} (h : w.heap[b]? = some (.cells (secsA ls) e)) : SecsIn w b ls :=
  ⟨_, _, h, by simp, by have := Array.extract_size (xs := secsA ls); rw [size_secsA] at this; exact this⟩
theorem SecsIn.touch {n : Nat} {w w' : World} {b : Nat} {ls : List (Arr n)} {S : List Nat} (h : SecsIn w b ls) (ht : Tch S w w') (hb : b ∉ S) : SecsIn w' b ls := by
  obtain ⟨cur, e, h1, h2⟩ := h
  exact ⟨cur, e, ht.heap h1 hb, h2⟩
section
variable {n : Nat} {P : Program} {T : TypeId} {ops : Array Oper} {rest : List Oper} {a : Act} {w : World} {Q : Exit → Act → World → Prop} {dst : Option Tmp} {ty : TypeId} {pos : String} {af : Array Edge} {x y : Operand}
theorem exec_load_in (hT : BytesT P T n) {b i : Nat} {ls : List (Arr n)} {s : Arr n} {o : Oper} (ho : o.op = .load T x) (hb : SecsIn w b ls) (hi : ls[i]? = some s) (hx : a.eval x = .pointer (some ⟨b, i * n, none⟩)) :
    (execOp a.eval o).run P w = .ok (.value (.agg (secA s))) w := by
  obtain ⟨cur, e, h1, h2, h3⟩ := hb
  have hil := (List.getElem?_eq_some_iff.1 hi).1
  have hl := mul_in (k := n) hil
  rw [exec_load_agg hT.agg ho hx h1 (by omega)]
  congr 3
  have h4 := secsA_extract hi
  rw [← h3, Array.extract_extract] at h4
  rw [← h4]
  congr 1 <;> omega
theorem ws_load_in {Qs : Act → Prop} (hT : BytesT P T n) {b i : Nat} {ls : List (Arr n)} {s : Arr n} (hb : SecsIn w b ls) (hi : ls[i]? = some s) (hx : a.eval x = .pointer (some ⟨b, i * n, none⟩))
    (h : wpStill P ops w Qs rest (a.put dst (.agg (secA s)))) : wpStill P ops w Qs (⟨dst, .load T x, ty, pos, af, none⟩ :: rest) a :=
  ws_value rfl (exec_load_in hT rfl hb hi hx) h
theorem wc_load_in (hT : BytesT P T n) {b i : Nat} {ls : List (Arr n)} {s : Arr n} (hb : SecsIn w b ls) (hi : ls[i]? = some s) (hx : a.eval x = .pointer (some ⟨b, i * n, none⟩))
    (h : wpList P ops Q rest (a.put dst (.agg (secA s))) w) : wpList P ops Q (⟨dst, .load T x, ty, pos, af, none⟩ :: rest) a w :=
  wc_value rfl (exec_load_in hT rfl hb hi hx) h
theorem ws_neq_arr {Qs : Act → Prop} (hT : BytesT P T n) {yt : TypeId} {s t : Arr n} (hx : a.eval x = .agg (secA s)) (hy : a.eval y = .agg (secA t))
    (h : wpStill P ops w Qs rest (a.put dst (.bool (!decide (s = t))))) : wpStill P ops w Qs (⟨dst, .binOp .neq T x y yt, ty, pos, af, none⟩ :: rest) a := by
  rw [← decide_arr] at h
  exact ws_value rfl (exec_neq_bytes hT rfl hx hy s.h t.h) h
/-- 'append([]T{}, xs...)', xs a row that is not empty. -/
theorem wc_clone_arrs (hT : BytesT P T n) {S : TypeId} (hS : P.underlying S = some (.slice T)) (hn : 0 < n) {g b : Nat} {ls : List (Arr n)} {cap : Nat} {e : TypeId} (hg : w.heap[g]? = some (.cells #[] T)) (hb : w.heap[b]? = some (.cells (secsA ls) e)) (hls : ls ≠ [])
    (hlim : ls.length * n ≤ 140737488355328) {ar : Array Operand} {ts : Array TypeId} (har : ar = #[x, y]) (hts : ts = #[S, S]) (hx : a.eval x = .slice (some ⟨g, 0, none⟩) 0 0) (hy : a.eval y = .slice (some ⟨b, 0, none⟩) ls.length cap)
    (h' : ∀ k cap' w', Tch [g] w w' → g ≤ k → SecsIn w' k ls → wpList P ops Q rest (a.put dst (.slice (some ⟨k, 0, none⟩) ls.length cap')) w') :
    wpList P ops Q (⟨dst, .call { callee := .builtin .append, args := ar, argTypes := ts }, ty, pos, af, none⟩ :: rest) a w := by
  subst har hts
  obtain ⟨i, h1, h2, h3, h4⟩ := hT.info
  have hglt := lt_of_heap hg
  refine wpList_append_own w rfl x y S rfl g T i (.agg (bytesA (List.replicate n 0))) n n hS h1 h4 h2 h3 (by simp [Value.cells]) hn (.slice (some ⟨g, 0, none⟩) 0 0) 0 [] hx ⟨by simp, .inr ⟨g, 0, #[], rfl, Nat.le_refl _, hg, Nat.le_refl _, by simp, by simp, by simp⟩⟩ ⟨b, 0, none⟩ ls.length cap (secsA ls).toList hy (by simp) ?_ ?_ ?_ ?_ (by omega) ?_
  · intro j u hj
    rw [add_mk, Nat.zero_add, cell_of_row w b j _ _ _ hb]
    simpa using hj
  · exact secsA_one ls
  · unfold maxLen
    have : ls.length ≤ ls.length * n := Nat.le_mul_of_pos_right _ hn
    omega
  · rw [Nat.zero_add]; exact hlim
  · intro v' w' hown hgr _
    rw [Nat.zero_add, List.nil_append] at hown
    obtain ⟨hl, hv | ⟨k, cap', cur, rfl, hgk, hk, hc1, hc2, hc3, hc4⟩⟩ := hown
    · exfalso
      obtain ⟨_, h0⟩ := hv
      exact hls (List.eq_nil_of_length_eq_zero h0)
    · have hlpos : 0 < ls.length := List.length_pos_iff.2 hls
      have hlen : ls.length * n ≤ cur.size := by rw [hc3]; exact Nat.mul_le_mul_right _ hc1
      refine h' k cap' w' (Tch.of_grown hgr (fun q hq => by simp [Value.ownBlock] at hq; simp [hq])) hgk ⟨cur, T, hk, hlen, ?_⟩
      apply Array.toList_inj.1
      rw [Array.toList_extract, List.extract_eq_take_drop, List.drop_zero, Nat.sub_zero, hc4]
end
end Go.Cib
/-
  The disk of chapter 7 as a plain machine; no Go in it.
-/
namespace Go.Cib
open Go Go.RowKit

structure DiskS where
  lasts : List Sec
  waits : Int → Option Sec
  dead : Bool
  armed : Int
  writes : Int
  flushes : Int

namespace DiskS
def made (n : Nat) : DiskS := ⟨List.replicate n (Arr.zero : Sec), fun _ => none, false, 0, 0, 0⟩
/-- Why sector i can't be asked for. -/
def may (D : DiskS) (i : Int) : Int := if D.dead = true then 6 else if i < 0 then 2 else if (D.lasts.length : Int) ≤ i then 2 else 0
def at_ (D : DiskS) (i : Int) : Sec := (D.waits i).getD (D.lasts.getD i.toNat Arr.zero)
def read (D : DiskS) (i : Int) : Sec × Int := if D.may i = 0 then (D.at_ i, 0) else (Arr.zero, D.may i)
/-- The count behind an operation, and whether the power goes. -/
def went (D : DiskS) : Bool := D.armed == 1
def goes (D : DiskS) : DiskS := if D.armed = 0 then D else { D with armed := D.armed - 1, dead := D.armed == 1 }
def put (D : DiskS) (i : Int) (s : Sec) : DiskS := { D with writes := wrap64 (D.writes + 1), waits := fun j => if j = i then some s else D.waits j }
def write (D : DiskS) (i : Int) (s : Sec) : Int × DiskS :=
  if D.may i = 0 then (if D.went = true then 6 else 0, (D.put i s).goes) else (D.may i, D)
/-- Sectors with others laid over them. -/
def lay (ls : List Sec) (g : Int → Option Sec) : List Sec := (List.range ls.length).map fun (i : Nat) => (g (i : Int)).getD (ls.getD i Arr.zero)
def counted (D : DiskS) : DiskS := { D with flushes := wrap64 (D.flushes + 1) }
def flushed (D : DiskS) : DiskS := { D with lasts := lay D.lasts D.waits, waits := fun _ => none }
def flush (D : DiskS) : Int × DiskS :=
  if D.dead = true then (6, D) else if D.went = true then (6, D.counted.goes) else (0, D.counted.goes.flushed)
def pending (D : DiskS) : List Int := ((List.range D.lasts.length).map (fun (i : Nat) => (i : Int))).filter fun i => (D.waits i).isSome
def arm (D : DiskS) (n : Int) : Int × DiskS := if n < 0 then (2, D) else (0, { D with armed := n })
def off (D : DiskS) : DiskS := { D with dead := true, armed := 0 }
def kept (D : DiskS) (keep : List Int) : Int → Option Sec := fun i => if i ∈ keep then D.waits i else none
def on (D : DiskS) (keep : List Int) : Int × DiskS :=
  if D.dead = true then (0, { D with dead := false, lasts := lay D.lasts (D.kept keep), waits := fun _ => none }) else (70, D)

/-- What holds of every disk. -/
structure Ok (D : DiskS) : Prop where
  some : 1 ≤ D.lasts.length
  size : D.lasts.length ≤ 16384
  sup : ∀ i s, D.waits i = .some s → 0 ≤ i ∧ i < D.lasts.length
  arm0 : 0 ≤ D.armed
  arm1 : D.armed ≤ 9223372036854775807

@[simp] theorem length_lay (ls : List Sec) (g : Int → Option Sec) : (lay ls g).length = ls.length := by simp [lay]
theorem getElem?_lay (ls : List Sec) (g : Int → Option Sec) (i : Nat) : (lay ls g)[i]? = (ls[i]?).map fun s => (g i).getD s := by
  unfold lay
  rw [List.getElem?_map]
  by_cases h : i < ls.length
  · simp [h]
  · rw [List.getElem?_eq_none (by simpa using h), List.getElem?_eq_none (by simpa using h)]
    rfl
theorem lay_none (ls : List Sec) : lay ls (fun _ => none) = ls := by
  apply List.ext_getElem?
  intro i
  rw [getElem?_lay]
  cases ls[i]? <;> simp
/-- One sector more is laid. -/
theorem lay_upd (ls : List Sec) (g : Int → Option Sec) (i : Nat) (s : Sec) : lay ls (fun j => if j = (i : Int) then .some s else g j) = (lay ls g).set i s := by
  apply List.ext_getElem?
  intro j
  rw [getElem?_lay, List.getElem?_set, getElem?_lay]
  by_cases hj : i = j
  · subst hj
    simp only [if_true, length_lay]
    by_cases hl : i < ls.length
    · simp [hl]
    · simp [hl]
  · have : ¬ ((j : Int) = (i : Int)) := by omega
    simp only [hj, this, if_false]

theorem Ok.goes {D : DiskS} (h : Ok D) : Ok D.goes := by
  unfold DiskS.goes
  split
  · exact h
  · have := h.arm0; have := h.arm1
    exact ⟨h.some, h.size, h.sup, by simp only; omega, by simp only; omega⟩
theorem Ok.put {D : DiskS} (h : Ok D) {i : Int} {s : Sec} (hi : D.may i = 0) : Ok (D.put i s) := by
  refine ⟨h.some, h.size, fun j t hj => ?_, h.arm0, h.arm1⟩
  simp only [DiskS.put] at hj ⊢
  by_cases e : j = i
  · subst e
    unfold DiskS.may at hi
    repeat' split at hi
    all_goals first | (exfalso; omega) | omega
  · rw [if_neg e] at hj; exact h.sup j t hj
theorem Ok.write {D : DiskS} (h : Ok D) (i : Int) (s : Sec) : Ok (D.write i s).2 := by
  unfold DiskS.write
  split
  · exact (h.put ‹_›).goes
  · exact h
theorem Ok.counted {D : DiskS} (h : Ok D) : Ok D.counted := ⟨h.some, h.size, h.sup, h.arm0, h.arm1⟩
theorem Ok.flushed {D : DiskS} (h : Ok D) : Ok D.flushed := ⟨by simpa [DiskS.flushed] using h.some, by simpa [DiskS.flushed] using h.size, by simp [DiskS.flushed], h.arm0, h.arm1⟩
theorem Ok.flush {D : DiskS} (h : Ok D) : Ok D.flush.2 := by
  unfold DiskS.flush
  repeat' split
  · exact h
  · exact h.counted.goes
  · exact h.counted.goes.flushed
theorem Ok.arm {D : DiskS} (h : Ok D) (n : Int) (hn : n ≤ 9223372036854775807) : Ok (D.arm n).2 := by
  unfold DiskS.arm
  split
  · exact h
  · exact ⟨h.some, h.size, h.sup, by simp only; omega, hn⟩
theorem Ok.off {D : DiskS} (h : Ok D) : Ok D.off := ⟨h.some, h.size, h.sup, by simp [DiskS.off], by simp [DiskS.off]⟩
theorem Ok.on {D : DiskS} (h : Ok D) (keep : List Int) : Ok (D.on keep).2 := by
  unfold DiskS.on
  split
  · exact ⟨by simpa using h.some, by simpa using h.size, by simp, h.arm0, h.arm1⟩
  · exact h
theorem Ok.made {n : Nat} (h1 : 1 ≤ n) (h2 : n ≤ 16384) : Ok (DiskS.made n) := ⟨by simpa [DiskS.made] using h1, by simpa [DiskS.made] using h2, by simp [DiskS.made], by simp [DiskS.made], by simp [DiskS.made]⟩
end DiskS
end Go.Cib
/-
  Small laws, for any program: rows that are made, appended to, copied.
-/
namespace Go.Cib
open Go Go.RowKit

theorem madeRows (z : Array Value) (n : Nat) : (Array.range (n * z.size)).map (fun i => z[i % z.size]!) = rowsA (List.replicate n z) := by
  apply Array.toList_inj.1
  rw [Array.toList_map, Array.toList_range]
  simp only [rowsA]
  induction n with
  | zero => simp
  | succ n ih =>
    rw [Nat.succ_mul, List.range_add, List.map_append, ih, List.replicate_succ', List.flatMap_append]
    congr 1
    rw [List.map_map]
    simp only [List.flatMap_cons, List.flatMap_nil, List.append_nil]
    apply List.ext_getElem
    · simp
    · intro i h1 h2
      simp only [List.length_map, List.length_range] at h1
      simp only [List.getElem_map, List.getElem_range, Function.comp_apply]
      rw [show (n * z.size + i) % z.size = i by rw [Nat.mul_comm, Nat.mul_add_mod, Nat.mod_eq_of_lt h1]]
      rw [getElem!_pos z i h1]
      simp

section
variable {P : Program} {T E : TypeId} {ops : Array Oper} {rest : List Oper} {a : Act} {w : World} {Q : Exit → Act → World → Prop} {dst : Option Tmp} {ty : TypeId} {pos : String} {af : Array Edge} {x y : Operand}
/-- 'make([]T, n)'. -/
theorem wc_makeRows (hT : P.underlying T = some (.slice E)) {i : TypeInfo} (hi : P.info? E = some i) {z : Value} (hz : i.zero = some z) (hs : z.cells.size = i.size) {n : Nat}
    (hb : i.bytes * n ≤ 281474976710656) (hn : n ≤ 9223372036854775807) (hx : a.eval x = .int .i64 n) (hy : a.eval y = .int .i64 n)
    (h : wpList P ops Q rest (a.put dst (.slice (some ⟨w.heap.size, 0, none⟩) n n)) (w.alloc (.cells (rowsA (List.replicate n z.cells)) E))) : wpList P ops Q (⟨dst, .makeSlice T x y, ty, pos, af, none⟩ :: rest) a w := by
  have hm := madeRows z.cells n
  have hr := run_make (P := P) w T E i z hT hi hz .i64 .i64 n n (by omega) (by omega) (by rw [← Int.natCast_mul]; omega) (by omega)
  simp only [Int.toNat_natCast] at hr
  rw [← hs, show madeCells z.cells (n * z.cells.size) = _ from hm] at hr
  refine wc_value rfl ?_ h
  unfold execOp
  simp [hx, hy, hr]
theorem rows_zero {n m : Nat} : rowsA (List.replicate m (secA (Arr.zero : Arr n))) = secsA (List.replicate m (Arr.zero : Arr n)) := by
  unfold secsA
  rw [List.map_replicate]
/-- 'make([]T, m)' of arrays of bytes. -/
theorem wc_makeArrs {n : Nat} (hE : BytesT P E n) (hT : P.underlying T = some (.slice E)) {m : Nat} (hb : n * m ≤ 281474976710656) (hm : m ≤ 9223372036854775807) (hx : a.eval x = .int .i64 m) (hy : a.eval y = .int .i64 m)
    (h : wpList P ops Q rest (a.put dst (.slice (some ⟨w.heap.size, 0, none⟩) m m)) (w.alloc (.cells (secsA (List.replicate m (Arr.zero : Arr n))) E))) : wpList P ops Q (⟨dst, .makeSlice T x y, ty, pos, af, none⟩ :: rest) a w := by
  obtain ⟨i, h1, h2, h3, h4⟩ := hE.info
  refine wc_makeRows hT h1 h4 (by simp [Value.cells, h2]) (by rw [h3]; exact hb) hm hx hy ?_
  rw [show (Value.agg (bytesA (List.replicate n 0))).cells = secA (Arr.zero : Arr n) from rfl, rows_zero]
  exact h
end
end Go.Cib
/-
  Small laws, for any program: lists of numbers that grow.
-/
namespace Go.Cib
open Go Go.RowKit

/-! ### Lists of numbers that grow -/
/-- v is a slice of the call's own (blocks from B on) that holds l. -/
def OwnInts (w : World) (B : Nat) (e : TypeId) (v : Value) (l : List Int) : Prop := w.ownsRow B e 1 v l.length (l.map (Value.int .i64))
theorem ownInts_nil (w : World) (B : Nat) (e : TypeId) : OwnInts w B e (.slice none 0 0) [] := World.ownsRow_nil w B e 1
theorem OwnInts.shape {w : World} {B : Nat} {e : TypeId} {v : Value} {l : List Int} (h : OwnInts w B e v l) :
    (v = .slice none 0 0 ∧ l = []) ∨ ∃ g cap cur, v = .slice (some ⟨g, 0, none⟩) l.length cap ∧ B ≤ g ∧ w.heap[g]? = some (.cells cur e) ∧ l.length ≤ cap ∧ cap ≤ maxLen ∧ cur.size = cap ∧ cur.toList.take l.length = l.map (Value.int .i64) := by
  obtain ⟨h1, h2⟩ := h
  rcases h2 with ⟨rfl, h3⟩ | ⟨g, cap, cur, rfl, h3, h4, h5, h6, h7, h8⟩
  · exact .inl ⟨rfl, List.eq_nil_of_length_eq_zero h3⟩
  · exact .inr ⟨g, cap, cur, rfl, h3, h4, h5, h6, by simpa using h7, by simpa using h8⟩
theorem OwnInts.kept {w w' : World} {B : Nat} {e : TypeId} {v : Value} {l : List Int} {S : List Nat} (h : OwnInts w B e v l) (ht : Tch S w w') (hn : ∀ g, v.ownBlock = some g → g ∉ S) : OwnInts w' B e v l := by
  obtain ⟨h1, h2⟩ := h
  refine ⟨h1, ?_⟩
  rcases h2 with h2 | ⟨g, cap, cur, rfl, h3, h4, h5⟩
  · exact .inl h2
  · exact .inr ⟨g, cap, cur, rfl, h3, ht.heap h4 (hn g rfl), h5⟩
/-- A block that is no row of cells is not the slice's own. -/
theorem OwnInts.ne {w : World} {B : Nat} {e : TypeId} {v : Value} {l : List Int} (h : OwnInts w B e v l) {R : Nat} {o : Obj} (hR : w.heap[R]? = some o) (ho : ∀ c e' fr, o ≠ .cells c e' fr) : R ∉ v.ownBlock.toList := by
  intro hm
  rcases h.shape with ⟨rfl, _⟩ | ⟨g, cap, cur, rfl, _, hg, _⟩
  · simp [Value.ownBlock] at hm
  · simp [Value.ownBlock] at hm
    subst hm
    rw [hg] at hR
    cases hR
    exact ho _ _ _ rfl
theorem OwnInts.lt {w : World} {B : Nat} {e : TypeId} {v : Value} {l : List Int} (h : OwnInts w B e v l) : ∀ k ∈ v.ownBlock.toList, B ≤ k ∧ k < w.heap.size := by
  intro k hk
  rcases h.shape with ⟨rfl, _⟩ | ⟨g, cap, cur, rfl, hb, hg, _⟩
  · simp [Value.ownBlock] at hk
  · simp [Value.ownBlock] at hk
    subst hk
    exact ⟨hb, lt_of_heap hg⟩
/-- T is a type of slices of int. -/
structure IntsT (P : Program) (T e : TypeId) : Prop where
  und : P.underlying T = some (.slice e)
  info : ∃ i, P.info? e = some i ∧ i.zero = some (.int .i64 0) ∧ i.size = 1 ∧ i.bytes = 8
theorem IntsT.of {P : Program} {T e : TypeId} (h1 : P.underlying T = some (.slice e)) (h2 : (P.info? e).map (fun i => (i.zero, i.size, i.bytes)) = some (some (.int .i64 0), 1, 8)) : IntsT P T e := by
  obtain ⟨i, hi, hi2⟩ := Option.map_eq_some_iff.1 h2
  simp only [Prod.mk.injEq] at hi2
  exact ⟨h1, i, hi, hi2⟩
section
variable {P : Program} {T e : TypeId} {ops : Array Oper} {rest : List Oper} {a : Act} {w : World} {Q : Exit → Act → World → Prop} {dst : Option Tmp} {ty : TypeId} {pos : String} {af : Array Edge} {x y : Operand}
/-- 'append(l, n)'. -/
theorem wc_append_int (hT : IntsT P T e) {B : Nat} {v : Value} {l : List Int} (h : OwnInts w B e v l) (hB : B ≤ w.heap.size) (hl : l.length + 1 ≤ 17592186044416) {as : Array Operand} {ts : Array TypeId} (has : as = #[x, y]) (hts : ts = #[T, T]) (hx : a.eval x = v)
    {g : Nat} {n : Int} (hy : a.eval y = .slice (some ⟨g, 0, none⟩) 1 1) (hg : w.cell? ⟨g, 0, none⟩ = some (.int .i64 n))
    (h' : ∀ v' w', OwnInts w' B e v' (l ++ [n]) → Tch v.ownBlock.toList w w' → wpList P ops Q rest (a.put dst v') w') : wpList P ops Q (⟨dst, .call { callee := .builtin .append, args := as, argTypes := ts }, ty, pos, af, none⟩ :: rest) a w := by
  subst has hts
  obtain ⟨i, h1, h2, h3, h4⟩ := hT.info
  refine wpList_append_own w rfl x y T rfl B e i (.int .i64 0) 1 8 hT.und h1 h2 h3 h4 rfl (by decide) v l.length (l.map (Value.int .i64)) hx h ⟨g, 0, none⟩ 1 1 [.int .i64 n] hy rfl ?_ ?_ ?_ ?_ hB ?_
  · intro j u hj
    match j, hj with
    | 0, hj => cases hj; rw [Addr.add_zero']; exact hg
  · intro u hu; simp at hu; subst hu; rfl
  · unfold maxLen; omega
  · omega
  · intro v' w' hown hgr _
    refine h' v' w' ?_ (Tch.of_grown hgr (fun k hk => by rw [hk]; simp))
    unfold OwnInts
    simpa using hown
end
end Go.Cib
