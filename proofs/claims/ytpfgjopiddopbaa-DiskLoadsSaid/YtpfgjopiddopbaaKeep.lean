/-
  Small laws: slices of bools; a disk of the call's own, beside lists and variables of its own.
-/
import Derived.Test.YtpfgjopiddopbaaDiskL
import Derived.Deep.CutBlock
import Derived.Deep.DeepCutAuto
import Derived.Lib.SliceRun
namespace Go.Cib
open Go Go.RowKit
def boolsA (l : List Bool) : Array Value := (l.map Value.bool).toArray
@[simp] theorem size_boolsA (l : List Bool) : (boolsA l).size = l.length := by simp [boolsA]
theorem boolsA_get (l : List Bool) (i : Nat) : (boolsA l)[i]? = (l[i]?).map Value.bool := by simp [boolsA]
theorem boolsA_set (l : List Bool) (i : Nat) (b : Bool) : (boolsA l).setIfInBounds i (.bool b) = boolsA (l.set i b) := by simp [boolsA]
theorem rows_bools (n : Nat) : rowsA (List.replicate n (Value.bool false).cells) = boolsA (List.replicate n false) := by
  apply Array.toList_inj.1
  simp only [rowsA, boolsA, List.map_replicate]
  exact flat_rep (.bool false) n
theorem exec_makeBools {P : Program} {T E : TypeId} {a : Act} {w : World} {dst : Option Tmp} {ty : TypeId} {pos : String} {af : Array Edge} {x y : Operand} {gd : Option (Nat × Bool)}
    (hT : P.underlying T = some (.slice E)) (hE : (P.info? E).map (fun i => (i.zero, i.size, i.bytes)) = some (some (.bool false), 1, 1)) {n : Nat}
    (hn : n ≤ 281474976710656) (hx : a.eval x = .int .i64 n) (hy : a.eval y = .int .i64 n) :
    (execOp a.eval ⟨dst, .makeSlice T x y, ty, pos, af, gd⟩).run P w = .ok (.value (.slice (some ⟨w.heap.size, 0, none⟩) n n)) (w.alloc (.cells (boolsA (List.replicate n false)) E)) := by
  obtain ⟨i, hi, hi2⟩ := Option.map_eq_some_iff.1 hE
  simp only [Prod.mk.injEq] at hi2
  rw [exec_makeRows hT hi hi2.1 (by rw [hi2.2.1]; rfl) (by rw [hi2.2.2]; omega) (by omega) hx hy, rows_bools]
section
variable {P : Program} {ops : Array Oper} {rest : List Oper} {a : Act} {w : World} {Q : Exit → Act → World → Prop} {dst : Option Tmp} {ty : TypeId} {pos : String} {af : Array Edge} {x y : Operand}
theorem wc_makeBools {T E : TypeId} (hT : P.underlying T = some (.slice E)) (hE : (P.info? E).map (fun i => (i.zero, i.size, i.bytes)) = some (some (.bool false), 1, 1)) {m : Nat}
    (hn : m ≤ 281474976710656) (hx : a.eval x = .int .i64 m) (hy : a.eval y = .int .i64 m)
    (h : wpList P ops Q rest (a.put dst (.slice (some ⟨w.heap.size, 0, none⟩) m m)) (w.alloc (.cells (boolsA (List.replicate m false)) E))) :
    wpList P ops Q (⟨dst, .makeSlice T x y, ty, pos, af, none⟩ :: rest) a w := wc_value rfl (exec_makeBools hT hE hn hx hy) h
/-- A guarded operation that is not wanted, inside a region of which nothing writes. -/
theorem ws_skip {Qs : Act → Prop} {o : Oper} (hw : Region.wanted o (yielded ops a.tmps) = false) (h : wpStill P ops w Qs rest (a.put o.dst undef)) : wpStill P ops w Qs (o :: rest) a := by
  refine wpStill_step fun K hK => ?_
  rw [if_neg (by simp [hw])]
  exact hK _ h
theorem wsg_value {Qs : Act → Prop} {o : Oper} (hw : Region.wanted o (yielded ops a.tmps) = true) {v : Value} (hrun : (execOp a.eval o).run P w = .ok (.value v) w) (h : wpStill P ops w Qs rest (a.put o.dst v)) : wpStill P ops w Qs (o :: rest) a := by
  refine wpStill_step fun K hK => ?_
  rw [if_pos hw]
  unfold Oper.still
  rw [hrun, Oper.stillUpon_value]
  exact hK _ h
theorem wsg_load_var {Qs : Act → Prop} {n : Nat} {T : TypeId} {gd : Option (Nat × Bool)} (hT : BytesT P T n) {b : Nat} {s : Arr n} {e : TypeId} {fr : Nat × Nat} (hb : w.heap[b]? = some (.cells (secA s) e fr)) (hw : Region.wanted ⟨dst, .load T x, ty, pos, af, gd⟩ (yielded ops a.tmps) = true) (hx : a.eval x = .pointer (some ⟨b, 0, none⟩))
    (h : wpStill P ops w Qs rest (a.put dst (.agg (secA s)))) : wpStill P ops w Qs (⟨dst, .load T x, ty, pos, af, gd⟩ :: rest) a :=
  wsg_value hw (exec_load_var hT rfl hb hx) h
theorem wsg_load_in {Qs : Act → Prop} {n : Nat} {T : TypeId} {gd : Option (Nat × Bool)} (hT : BytesT P T n) {b i : Nat} {ls : List (Arr n)} {s : Arr n} (hb : SecsIn w b ls) (hi : ls[i]? = some s) (hw : Region.wanted ⟨dst, .load T x, ty, pos, af, gd⟩ (yielded ops a.tmps) = true) (hx : a.eval x = .pointer (some ⟨b, i * n, none⟩))
    (h : wpStill P ops w Qs rest (a.put dst (.agg (secA s)))) : wpStill P ops w Qs (⟨dst, .load T x, ty, pos, af, gd⟩ :: rest) a :=
  wsg_value hw (exec_load_in hT rfl hb hi hx) h
theorem wsg_neq_arr {Qs : Act → Prop} {n : Nat} {T : TypeId} {gd : Option (Nat × Bool)} (hT : BytesT P T n) {yt : TypeId} {s t : Arr n} (hw : Region.wanted ⟨dst, .binOp .neq T x y yt, ty, pos, af, gd⟩ (yielded ops a.tmps) = true) (hx : a.eval x = .agg (secA s)) (hy : a.eval y = .agg (secA t))
    (h : wpStill P ops w Qs rest (a.put dst (.bool (!decide (s = t))))) : wpStill P ops w Qs (⟨dst, .binOp .neq T x y yt, ty, pos, af, gd⟩ :: rest) a := by
  rw [← decide_arr] at h
  exact wsg_value hw (exec_neq_bytes hT rfl hx hy s.h t.h) h
end
end Go.Cib
namespace Go.Proofs.Ytpfgjopiddopbaa
open Go.RowKit Go.Cib

theorem infoBool1 : (Try.prog.info? 4).map (fun i => (i.zero, i.size, i.bytes)) = some (some (.bool false), 1, 1) := by kernel_rfl

/-- A disk of the call's own. -/
structure Solo (w0 w : World) (d L M : Nat) (D : DiskS) (S : List Nat) (B : List (Nat × Obj)) : Prop where
  dk : DiskAt w d L M D
  bx : Boxes w0 w (d :: L :: M :: S) B
  ne : ∀ x ∈ S, x ≠ d ∧ x ≠ L ∧ x ≠ M
section
variable {w0 w w' : World} {d L M : Nat} {D D' : DiskS} {S : List Nat} {B B' : List (Nat × Obj)}
theorem Solo.stepD (h : Solo w0 w d L M D S B) (hd : DiskAt w' d L M D') (ht : Tch [d, L, M] w w') : Solo w0 w' d L M D' S B := ⟨hd, h.bx.step ht (by simp; try omega), h.ne⟩
theorem Solo.same (h : Solo w0 w d L M D S B) (ht : Tch [] w w') : Solo w0 w' d L M D S B := ⟨h.dk.far ht (by simp), h.bx.same ht, h.ne⟩
theorem Solo.side (h : Solo w0 w d L M D S B) {k : Nat} (hk : k ∈ S) (ht : Tch [k] w w') : Solo w0 w' d L M D S B := by
  obtain ⟨h1, h2, h3⟩ := h.ne k hk
  exact ⟨h.dk.touch ht (by simpa using Ne.symm h1) (by simpa using Ne.symm h2) (by simpa using Ne.symm h3), h.bx.step ht (by simp; simp [hk]), h.ne⟩
theorem Solo.put (h : Solo w0 w d L M D S B) (o : Obj) : Solo w0 (w.alloc o) d L M D S ((w.heap.size, o) :: B) :=
  ⟨h.dk.far ((Tch.refl [] w).alloc o) (by simp), h.bx.put o, h.ne⟩
theorem Solo.drop (h : Solo w0 w d L M D S B) (hb : ∀ x ∈ B', x ∈ B) : Solo w0 w d L M D S B' := ⟨h.dk, h.bx.drop hb, h.ne⟩
theorem Solo.off (h : Solo w0 w d L M D S B) {o : OpV} (ho : OpOk w0 o) : ∀ x, o.keep ≠ [] → o.ka = some x → x.block ≠ d ∧ x.block ≠ L ∧ x.block ≠ M :=
  ho.off (h.bx.own d (by simp)).1 (h.bx.own L (by simp)).1 (h.bx.own M (by simp)).1
/-- One block more is owned. -/
theorem Solo.own (h : Solo w0 w d L M D S B) {k : Nat} (h1 : w0.heap.size ≤ k) (h2 : k < w.heap.size) (h3 : ∀ x ∈ B, x.1 ≠ k) (h4 : k ≠ d ∧ k ≠ L ∧ k ≠ M) : Solo w0 w d L M D (k :: S) B := by
  refine ⟨h.dk, ⟨h.bx.tch, ?_, ?_⟩, ?_⟩
  · intro x hx
    simp only [List.mem_cons] at hx
    rcases hx with rfl | rfl | rfl | rfl | hx
    · exact h.bx.own _ (by simp)
    · exact h.bx.own _ (by simp)
    · exact h.bx.own _ (by simp)
    · exact ⟨h1, h2⟩
    · exact h.bx.own _ (by simp [hx])
  · intro x hx
    obtain ⟨g1, g2, g3⟩ := h.bx.box x hx
    refine ⟨g1, ?_, g3⟩
    intro hm
    simp only [List.mem_cons] at hm g2
    rcases hm with hm | hm | hm | hm | hm
    · exact g2 (.inl hm)
    · exact g2 (.inr (.inl hm))
    · exact g2 (.inr (.inr (.inl hm)))
    · exact h3 x hx hm
    · exact g2 (.inr (.inr (.inr hm)))
  · intro x hx
    rcases List.mem_cons.1 hx with rfl | hx
    · exact h4
    · exact h.ne x hx
end
theorem Boxes.perm2 {w0 w : World} {d L M k ob : Nat} {B : List (Nat × Obj)} (h : Boxes w0 w (d :: L :: M :: [ob, k]) B) : Boxes w0 w (d :: L :: M :: [k, ob]) B :=
  ⟨h.tch, fun x hx => h.own x (by simp at hx ⊢; omega), fun x hx => by
    obtain ⟨g1, g2, g3⟩ := h.box x hx
    exact ⟨g1, by simp at g2 ⊢; omega, g3⟩⟩
/-- Bools of the call's own. -/
structure BoolsAt (w : World) (b : Nat) (bs : List Bool) : Prop where
  at_ : w.heap[b]? = some (.cells (boolsA bs) 4)
theorem BoolsAt.touch {w w' : World} {b : Nat} {bs : List Bool} {S : List Nat} (h : BoolsAt w b bs) (ht : Tch S w w') (hn : b ∉ S) : BoolsAt w' b bs := ⟨ht.heap h.at_ hn⟩
theorem BoolsAt.mark {w : World} {b : Nat} {bs : List Bool} (h : BoolsAt w b bs) (i : Nat) (x : Bool) : BoolsAt (w.setCell ⟨b, i, none⟩ (.bool x)) b (bs.set i x) :=
  ⟨by rw [heap_setCell_cells h.at_, boolsA_set]⟩
theorem BoolsAt.cell {w : World} {b : Nat} {bs : List Bool} (h : BoolsAt w b bs) {i : Nat} {x : Bool} (hx : bs[i]? = some x) : w.cell? ⟨b, i, none⟩ = some (.bool x) := by
  rw [cell_of_row w b i _ _ _ h.at_, boolsA_get, hx]; rfl
end Go.Proofs.Ytpfgjopiddopbaa
