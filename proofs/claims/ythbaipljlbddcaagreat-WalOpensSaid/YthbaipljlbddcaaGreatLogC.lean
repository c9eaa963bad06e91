/-
  One behind the other, till one fails: package wal's steps.
-/
import Derived.Test.YthbaipljlbddcaaGreatLogB
namespace Go.Cib
open Go Go.RowKit
section
variable {P : Program} {ops : Array Oper} {rest : List Oper} {a : Act} {w : World} {Q : Exit → Act → World → Prop} {dst : Option Tmp} {ty : TypeId} {pos : String} {af : Array Edge} {x y : Operand}
/-- A call by its contract. -/
theorem wc_enter {o : Oper} (hgd : o.guard = none) {f : FuncId} {args : Array Value} (hrun : (execOp a.eval o).run P w = .ok (.enter f args) w) (h : Calls P f args w (fun e w' => ∃ v, e = .returned v ∧ wpList P ops Q rest (a.put o.dst v) w')) : wpList P ops Q (o :: rest) a w :=
  wpList_plain hgd fun K hK => by
    unfold Oper.wp
    rw [hrun, Oper.upon_enter]
    refine Calls.mono h ?_
    rintro e w' ⟨v, rfl, h'⟩
    exact hK _ _ h'
end
/-- Values that lie one behind the other. -/
def ValsAt (w : World) (a : Option Addr) (vs : List Value) : Prop := ∀ (j : Nat) (v : Value), vs[j]? = some v → ∃ b o : Nat, a = some ⟨b, o, none⟩ ∧ w.cell? ⟨b, o + j, none⟩ = some v
theorem ValsAt.later {w w' : World} {a : Option Addr} {l : List Value} (h : ValsAt w a l) (ht : Tch [] w w') : ValsAt w' a l := by
  intro j n hj
  obtain ⟨b, o, e, hc⟩ := h j n hj
  exact ⟨b, o, e, cell_old ht hc⟩
section
variable {σ : Type}
def runS (s : σ) : List (σ → Int × σ) → Int × σ
  | [] => (0, s)
  | f :: fs => if (f s).1 = 0 then runS (f s).2 fs else f s
/-- A function value that, called where R holds of s, hands back what f says, and R goes on. -/
def StepV (P : Program) (R : σ → World → Prop) (v : Value) (f : σ → Int × σ) : Prop :=
  ∃ (fid : FuncId) (first cap : Array Value), v = .func (.func fid) first cap ∧ (∀ (args : Array Value) (w : World), (callFunc fid args).run P w = .ok (.enter fid args) w) ∧
    ∀ s w, R s w → Calls P fid (first ++ cap) w (fun e w' => e = .returned (.int .i64 (f s).1) ∧ R (f s).2 w')
/-- The same, and what holds behind a step that failed is R'. -/
def StepE (P : Program) (R R' : σ → World → Prop) (v : Value) (f : σ → Int × σ) : Prop :=
  ∃ (fid : FuncId) (first cap : Array Value), v = .func (.func fid) first cap ∧ (∀ (args : Array Value) (w : World), (callFunc fid args).run P w = .ok (.enter fid args) w) ∧
    ∀ s w, R s w → Calls P fid (first ++ cap) w (fun e w' => e = .returned (.int .i64 (f s).1) ∧ ((f s).1 = 0 → R (f s).2 w') ∧ R' (f s).2 w')
theorem StepV.e {P : Program} {R : σ → World → Prop} {v : Value} {f : σ → Int × σ} (h : StepV P R v f) : StepE P R R v f := by
  obtain ⟨fid, first, cap, h1, h2, h3⟩ := h
  exact ⟨fid, first, cap, h1, h2, fun s w hr => (h3 s w hr).mono (by rintro e w' ⟨q1, q2⟩; exact ⟨q1, fun _ => q2, q2⟩)⟩
end
end Go.Cib
namespace Go.Proofs.YthbaipljlbddcaaGreat
open Go.RowKit Go.Cib
set_option maxRecDepth 20000 in
set_option maxHeartbeats 400000 in
theorem steps_end {σ : Type} {R R' : σ → World → Prop} {fs : List (Value × (σ → Int × σ))} (hS : ∀ q ∈ fs, StepE Tryz.prog R R' q.1 q.2) (hRR : ∀ s w, R s w → R' s w) {a : Option Addr} {cap : Nat} (hR : ∀ s w, R s w → ValsAt w a (fs.map (·.1))) {s : σ} {w : World} (h : R s w) (hl : fs.length ≤ 100000) :
    Calls Tryz.prog 39 #[.slice a fs.length cap] w fun e w' => e = .returned (.int .i64 (runS s (fs.map (·.2))).1) ∧ R' (runS s (fs.map (·.2))).2 w' := by
  obtain ⟨m, hm⟩ : ∃ m, fs.length = m := ⟨_, rfl⟩
  rw [hm] at hl ⊢
  have HM := Lib.hid hm
  have HH := Lib.hid h
  have HR := Lib.hid hR
  have HS := Lib.hid hS
  clear hm h hR hS
  go_enter Tryz.func39, Tryz.ntmps39
  go_wp2_with fail
  go_loopg [8] m (fun q i wr => ∃ j s', OnAt m i q j ∧ R s' wr ∧ runS s (fs.map (·.2)) = runS s' ((fs.drop j).map (·.2)))
  case atStart => exact ⟨0, s, ⟨Nat.zero_le _, rfl, rfl⟩, HH.out, rfl⟩
  case round =>
    obtain ⟨j, s', ⟨hj, rfl, rfl⟩, hRr, he⟩ := hrel
    have HRR := Lib.hid hRr
    clear hRr
    by_cases hjm : j < m
    · have hjl : j < fs.length := by have := HM.out; omega
      obtain ⟨q, hq⟩ : ∃ q, fs[j]? = some q := ⟨_, List.getElem?_eq_getElem hjl⟩
      have hd : fs.drop j = q :: fs.drop (j + 1) := by
        rw [List.drop_eq_getElem_cons hjl]
        congr 1
        exact Option.some.inj ((List.getElem?_eq_getElem hjl).symm.trans hq)
      obtain ⟨fid, first, fcap, hv, hcf, hrun⟩ := HS.out q (List.mem_of_getElem? hq)
      obtain ⟨b, o, rfl, hc⟩ := HR.out s' wr HRR.out j q.1 (by rw [List.getElem?_map, hq]; rfl)
      rw [hv] at hc
      rw [hd, List.map_cons, runS] at he
      have HE := Lib.hid he
      have CF := Lib.hid hcf
      have RUN := Lib.hid (hrun s' wr HRR.out)
      clear he hcf hrun hd hq hv
      by_cases hz : (q.2 s').1 = 0
      · rw [if_pos hz] at HE
        have hz' : ((q.2 s').1 != 0) = false := by simp [hz]
        go_wp2_with (rw [CF.out, Oper.upon_enter]; refine RUN.out.mono ?_; rintro e w5 ⟨rfl, q1, _⟩; have R5 := Lib.hid (q1 hz); clear q1)
        go_roundg (m - (j + 1))
        case measure => omega
        case rel => exact ⟨j + 1, _, ⟨by omega, by go_num, rfl⟩, R5.out, HE.out⟩
      · rw [if_neg hz] at HE
        have hz' : ((q.2 s').1 != 0) = true := by simp [hz]
        go_wp2_with (rw [CF.out, Oper.upon_enter]; refine RUN.out.mono ?_; rintro e w5 ⟨rfl, _, q1⟩; have R5 := Lib.hid q1; clear q1)
        go_ret
        rw [HE.out]
        exact ⟨rfl, R5.out⟩
    · have hd : fs.drop j = [] := List.drop_of_length_le (by have := HM.out; omega)
      rw [hd] at he
      have HE := Lib.hid he
      clear he hd
      go_wp2_with fail
      go_ret
      rw [HE.out]
      exact ⟨rfl, hRR _ _ HRR.out⟩
theorem steps_any {σ : Type} {R : σ → World → Prop} {fs : List (Value × (σ → Int × σ))} (hS : ∀ q ∈ fs, StepV Tryz.prog R q.1 q.2) {a : Option Addr} {cap : Nat} (hR : ∀ s w, R s w → ValsAt w a (fs.map (·.1))) {s : σ} {w : World} (h : R s w) (hl : fs.length ≤ 100000) :
    Calls Tryz.prog 39 #[.slice a fs.length cap] w fun e w' => e = .returned (.int .i64 (runS s (fs.map (·.2))).1) ∧ R (runS s (fs.map (·.2))).2 w' :=
  steps_end (fun q hq => (hS q hq).e) (fun _ _ h => h) hR h hl
end Go.Proofs.YthbaipljlbddcaaGreat
