/-
  Small laws: slices of bools (as in Keep, without the disk).
-/
import Derived.Test.YtkjgbhpnlgcinaaGreatDoorMQ
import Derived.Test.YtkjgbhpnlgcinaaGreatDoorMC
import Derived.Test.YtkjgbhpnlgcinaaGreatDoorMD1
namespace Go.Cib
open Go Go.RowKit
theorem exec_makeRowsB {P : Program} {T E : TypeId} {a : Act} {w : World} {dst : Option Tmp} {ty : TypeId} {pos : String} {af : Array Edge} {x y : Operand} {gd : Option (Nat × Bool)}
    (hT : P.underlying T = some (.slice E)) {i : TypeInfo} (hi : P.info? E = some i) {z : Value} (hz : i.zero = some z) (hs : z.cells.size = i.size) {n : Nat}
    (hb : i.bytes * n ≤ 281474976710656) (hn : n ≤ 9223372036854775807) (hx : a.eval x = .int .i64 n) (hy : a.eval y = .int .i64 n) :
    (execOp a.eval ⟨dst, .makeSlice T x y, ty, pos, af, gd⟩).run P w = .ok (.value (.slice (some ⟨w.heap.size, 0, none⟩) n n)) (w.alloc (.cells (rowsA (List.replicate n z.cells)) E)) := by
  have hm := madeRows z.cells n
  have hr := run_make (P := P) w T E i z hT hi hz .i64 .i64 n n (by omega) (by omega) (by rw [← Int.natCast_mul]; omega) (by omega)
  simp only [Int.toNat_natCast] at hr
  rw [← hs, show madeCells z.cells (n * z.cells.size) = _ from hm] at hr
  unfold execOp
  simp [hx, hy, hr]
theorem flat_repB (v : Value) : ∀ k, (List.replicate k #[v]).flatMap Array.toList = List.replicate k v
  | 0 => rfl
  | k + 1 => by rw [List.replicate_succ, List.replicate_succ, List.flatMap_cons, flat_repB v k]; rfl
def boolsA (l : List Bool) : Array Value := (l.map Value.bool).toArray
@[simp] theorem size_boolsA (l : List Bool) : (boolsA l).size = l.length := by simp [boolsA]
theorem boolsA_get (l : List Bool) (i : Nat) : (boolsA l)[i]? = (l[i]?).map Value.bool := by simp [boolsA]
theorem boolsA_set (l : List Bool) (i : Nat) (b : Bool) : (boolsA l).setIfInBounds i (.bool b) = boolsA (l.set i b) := by simp [boolsA]
theorem rows_bools (n : Nat) : rowsA (List.replicate n (Value.bool false).cells) = boolsA (List.replicate n false) := by
  apply Array.toList_inj.1
  simp only [rowsA, boolsA, List.map_replicate]
  exact flat_repB (.bool false) n
theorem exec_makeBools {P : Program} {T E : TypeId} {a : Act} {w : World} {dst : Option Tmp} {ty : TypeId} {pos : String} {af : Array Edge} {x y : Operand} {gd : Option (Nat × Bool)}
    (hT : P.underlying T = some (.slice E)) (hE : (P.info? E).map (fun i => (i.zero, i.size, i.bytes)) = some (some (.bool false), 1, 1)) {n : Nat}
    (hn : n ≤ 281474976710656) (hx : a.eval x = .int .i64 n) (hy : a.eval y = .int .i64 n) :
    (execOp a.eval ⟨dst, .makeSlice T x y, ty, pos, af, gd⟩).run P w = .ok (.value (.slice (some ⟨w.heap.size, 0, none⟩) n n)) (w.alloc (.cells (boolsA (List.replicate n false)) E)) := by
  obtain ⟨i, hi, hi2⟩ := Option.map_eq_some_iff.1 hE
  simp only [Prod.mk.injEq] at hi2
  rw [exec_makeRowsB hT hi hi2.1 (by rw [hi2.2.1]; rfl) (by rw [hi2.2.2]; omega) (by omega) hx hy, rows_bools]
section
variable {P : Program} {ops : Array Oper} {rest : List Oper} {a : Act} {w : World} {Q : Exit → Act → World → Prop} {dst : Option Tmp} {ty : TypeId} {pos : String} {af : Array Edge} {x y : Operand}
theorem wc_makeBools {T E : TypeId} (hT : P.underlying T = some (.slice E)) (hE : (P.info? E).map (fun i => (i.zero, i.size, i.bytes)) = some (some (.bool false), 1, 1)) {m : Nat}
    (hn : m ≤ 281474976710656) (hx : a.eval x = .int .i64 m) (hy : a.eval y = .int .i64 m)
    (h : wpList P ops Q rest (a.put dst (.slice (some ⟨w.heap.size, 0, none⟩) m m)) (w.alloc (.cells (boolsA (List.replicate m false)) E))) :
    wpList P ops Q (⟨dst, .makeSlice T x y, ty, pos, af, none⟩ :: rest) a w := wc_value rfl (exec_makeBools hT hE hn hx hy) h
end
end Go.Cib
namespace Go.Proofs.YtkjgbhpnlgcinaaGreatDoor
open Go.RowKit Go.Cib
theorem infoBool1 : (Tryz.prog.info? 4).map (fun i => (i.zero, i.size, i.bytes)) = some (some (.bool false), 1, 1) := by kernel_rfl
theorem uBools9 : Tryz.prog.underlying 33 = some (.slice 4) := by kernel_rfl
/-- Bools of the call's own. -/
structure BoolsAt (w : World) (b : Nat) (bs : List Bool) : Prop where
  at_ : w.heap[b]? = some (.cells (boolsA bs) 4)
theorem BoolsAt.touch {w w' : World} {b : Nat} {bs : List Bool} {S : List Nat} (h : BoolsAt w b bs) (ht : Tch S w w') (hn : b ∉ S) : BoolsAt w' b bs := ⟨ht.heap h.at_ hn⟩
theorem BoolsAt.mark {w : World} {b : Nat} {bs : List Bool} (h : BoolsAt w b bs) (i : Nat) (x : Bool) : BoolsAt (w.setCell ⟨b, i, none⟩ (.bool x)) b (bs.set i x) :=
  ⟨by rw [heap_setCell_cells h.at_, boolsA_set]⟩
theorem BoolsAt.cell {w : World} {b : Nat} {bs : List Bool} (h : BoolsAt w b bs) {i : Nat} {x : Bool} (hx : bs[i]? = some x) : w.cell? ⟨b, i, none⟩ = some (.bool x) := by
  rw [cell_of_row w b i _ _ _ h.at_, boolsA_get, hx]; rfl
end Go.Proofs.YtkjgbhpnlgcinaaGreatDoor
