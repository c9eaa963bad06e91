/-
  Small laws, for any program: a region whose order is open, walked once in the order of the text, in a class of worlds: loads of whole arrays, compares of them, calls that hand back one value in every world of the class.
-/
import Derived.Test.YtpfgjopiddopbaaSecs
import Derived.BigQuiet
namespace Go.Cib
open Go Go.RowKit
section
variable {P : Program} {ops : Array Oper} {C : World → Prop} {Qs : Act → Prop} {rest : List Oper} {a : Act} {dst : Option Tmp} {ty : TypeId} {pos : String} {af : Array Edge} {x y : Operand} {gd : Option (Nat × Bool)}
theorem wq_value {o : Oper} (hw : Region.wanted o (yielded ops a.tmps) = true) {v : Value} (hrun : ∀ w, C w → (execOp a.eval o).run P w = .ok (.value v) w) (h : wpQuiet P ops C Qs rest (a.put o.dst v)) : wpQuiet P ops C Qs (o :: rest) a :=
  wpQuiet_step fun K hK => by
    rw [if_pos hw]
    exact ⟨v, fun w hc => by unfold Oper.quietAt; rw [hrun w hc]; exact ⟨rfl, rfl⟩, hK _ h⟩
theorem wq_call {o : Oper} (hw : Region.wanted o (yielded ops a.tmps) = true) {f : FuncId} {args : Array Value} {v : Value} (hrun : ∀ w, (execOp a.eval o).run P w = .ok (.enter f args) w) (hc : ∀ w, C w → Calls P f args w (fun e w'' => e = .returned v ∧ C w'')) (h : wpQuiet P ops C Qs rest (a.put o.dst v)) : wpQuiet P ops C Qs (o :: rest) a :=
  wpQuiet_step fun K hK => by
    rw [if_pos hw]
    exact ⟨v, fun w h2 => by unfold Oper.quietAt; rw [hrun w]; exact ⟨rfl, hc w h2⟩, hK _ h⟩
theorem wq_load_var {n : Nat} {T : TypeId} (hT : BytesT P T n) {b : Nat} {s : Arr n} {e : TypeId} {fr : Nat × Nat} (hb : ∀ w, C w → w.heap[b]? = some (.cells (secA s) e fr)) (hw : Region.wanted ⟨dst, .load T x, ty, pos, af, gd⟩ (yielded ops a.tmps) = true) (hx : a.eval x = .pointer (some ⟨b, 0, none⟩))
    (h : wpQuiet P ops C Qs rest (a.put dst (.agg (secA s)))) : wpQuiet P ops C Qs (⟨dst, .load T x, ty, pos, af, gd⟩ :: rest) a :=
  wq_value hw (fun w hc => exec_load_var hT rfl (hb w hc) hx) h
theorem wq_load_in {n : Nat} {T : TypeId} (hT : BytesT P T n) {b i : Nat} {ls : List (Arr n)} {s : Arr n} (hb : ∀ w, C w → SecsIn w b ls) (hi : ls[i]? = some s) (hw : Region.wanted ⟨dst, .load T x, ty, pos, af, gd⟩ (yielded ops a.tmps) = true) (hx : a.eval x = .pointer (some ⟨b, i * n, none⟩))
    (h : wpQuiet P ops C Qs rest (a.put dst (.agg (secA s)))) : wpQuiet P ops C Qs (⟨dst, .load T x, ty, pos, af, gd⟩ :: rest) a :=
  wq_value hw (fun w hc => exec_load_in hT rfl (hb w hc) hi hx) h
theorem wq_neq_arr {n : Nat} {T : TypeId} (hT : BytesT P T n) {yt : TypeId} {s t : Arr n} (hw : Region.wanted ⟨dst, .binOp .neq T x y yt, ty, pos, af, gd⟩ (yielded ops a.tmps) = true) (hx : a.eval x = .agg (secA s)) (hy : a.eval y = .agg (secA t))
    (h : wpQuiet P ops C Qs rest (a.put dst (.bool (!decide (s = t))))) : wpQuiet P ops C Qs (⟨dst, .binOp .neq T x y yt, ty, pos, af, gd⟩ :: rest) a := by
  rw [← decide_arr] at h
  exact wq_value hw (fun w _ => exec_neq_bytes hT rfl hx hy s.h t.h) h
theorem wq_eql_arr {n : Nat} {T : TypeId} (hT : BytesT P T n) {yt : TypeId} {s t : Arr n} (hw : Region.wanted ⟨dst, .binOp .eql T x y yt, ty, pos, af, gd⟩ (yielded ops a.tmps) = true) (hx : a.eval x = .agg (secA s)) (hy : a.eval y = .agg (secA t))
    (h : wpQuiet P ops C Qs rest (a.put dst (.bool (decide (s = t))))) : wpQuiet P ops C Qs (⟨dst, .binOp .eql T x y yt, ty, pos, af, gd⟩ :: rest) a := by
  rw [← decide_arr] at h
  exact wq_value hw (fun w _ => exec_eql_bytes hT rfl hx hy s.h t.h) h
/-- One cell is read. -/
theorem run_loadVar_cell {T : TypeId} (hT : (P.underlying T).map (fun d => match d with | .struct _ | .array _ _ => true | _ => false) = some false) {w : World} {p : Addr} {v : Value} (hc : w.cell? p = some v) : (loadVar T p).run P w = .ok v w := by
  obtain ⟨d, hd, ha⟩ := Option.map_eq_some_iff.1 hT
  have h1 : (isAgg T).run P w = .ok false w := by
    unfold isAgg
    rw [Sem.run_bind, run_underlying hd w]
    cases d <;> simp_all
  simp [loadVar, Sem.run_bind, h1, hc]
theorem wq_load_cell {T : TypeId} (hT : (P.underlying T).map (fun d => match d with | .struct _ | .array _ _ => true | _ => false) = some false) {p : Addr} {v : Value} (hb : ∀ w, C w → w.cell? p = some v) (hw : Region.wanted ⟨dst, .load T x, ty, pos, af, gd⟩ (yielded ops a.tmps) = true) (hx : a.eval x = .pointer (some p))
    (h : wpQuiet P ops C Qs rest (a.put dst v)) : wpQuiet P ops C Qs (⟨dst, .load T x, ty, pos, af, gd⟩ :: rest) a :=
  wq_value hw (fun w hc => by unfold execOp; simp [hx, Instr.loadAt, Instr.sureAddr, run_loadVar_cell hT (hb w hc)]) h
end
theorem tch_drewN (w : World) (n : Nat) : Tch [] w (w.drewN n) := ⟨rfl, rfl, rfl, Nat.le_refl _, fun _ _ _ => rfl⟩
theorem drewN_heap {w : World} {b : Nat} {o : Obj} (h : w.heap[b]? = some o) : ∀ w', (∃ n, w' = w.drewN n) → w'.heap[b]? = some o := fun _ ⟨_, e⟩ => by subst e; exact h
theorem drewN_secs {w : World} {m : Nat} {b : Nat} {ls : List (Arr m)} (h : SecsIn w b ls) : ∀ w', (∃ n, w' = w.drewN n) → SecsIn w' b ls := fun _ ⟨k, e⟩ => by subst e; exact h.touch (tch_drewN w k) (by simp)
end Go.Cib
