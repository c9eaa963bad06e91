/-
  Small laws, for any program: a region whose order is open, walked once in the order of the text, in a class of worlds: loads of whole arrays, compares of them, calls that hand back one value in every world of the class.
-/
import Derived.Test.YtkjgbhpnlgcinaaGreatDoorMReg
import Derived.BigQuiet
import Derived.Test.YtkjgbhpnlgcinaaGreatDoorMC
import Derived.Test.YtkjgbhpnlgcinaaGreatDoorMR2
namespace Go.Cib
open Go Go.RowKit
section
variable {P : Program} {ops : Array Oper} {C : World → Prop} {Qs : Act → Prop} {rest : List Oper} {a : Act} {dst : Option Tmp} {ty : TypeId} {pos : String} {af : Array Edge} {x y : Operand} {gd : Option (Nat × Bool)}
theorem wq_value {o : Oper} (hw : Region.wanted o (yielded ops a.tmps) = true) {v : Value} (hrun : ∀ w, C w → (execOp a.eval o).run P w = .ok (.value v) w) (h : wpQuiet P ops C Qs rest (a.put o.dst v)) : wpQuiet P ops C Qs (o :: rest) a :=
  wpQuiet_step fun K hK => by
    rw [if_pos hw]
    exact ⟨v, fun w hc => by unfold Oper.quietAt; rw [hrun w hc]; exact ⟨rfl, rfl⟩, hK _ h⟩
theorem wq_call {o : Oper} (hw : Region.wanted o (yielded ops a.tmps) = true) {f : FuncId} {args : Array Value} {v : Value} (hrun : ∀ w, (execOp a.eval o).run P w = .ok (.enter f args) w) (hc : ∀ w, C w → Calls P f args w (fun e w'' => e = .returned v ∧ C w'')) (h : wpQuiet P ops C Qs rest (a.put o.dst v)) : wpQuiet P ops C Qs (o :: rest) a :=
  wpQuiet_step fun K hK => by
    rw [if_pos hw]
    exact ⟨v, fun w h2 => by unfold Oper.quietAt; rw [hrun w]; exact ⟨rfl, hc w h2⟩, hK _ h⟩
/-- A call of a function of the program's own: it hands back one value in every world of the class. -/
theorem wq_fn {f : FuncId} (hcf : ∀ (args : Array Value) (w : World), (callFunc f args).run P w = .ok (.enter f args) w) {ar : Array Operand} {ts : Array TypeId} {args : Array Value} {v : Value}
    (hw : Region.wanted ⟨dst, .call { callee := .value (.func f), args := ar, argTypes := ts }, ty, pos, af, gd⟩ (yielded ops a.tmps) = true) (ha : ar.toList.map a.eval = args.toList)
    (hc : ∀ w, C w → Calls P f args w (fun e w'' => e = .returned v ∧ C w'')) (h : wpQuiet P ops C Qs rest (a.put dst v)) :
    wpQuiet P ops C Qs (⟨dst, .call { callee := .value (.func f), args := ar, argTypes := ts }, ty, pos, af, gd⟩ :: rest) a :=
  wq_call hw (fun w => by rw [execOp_call_go, show ar.map a.eval = args from Array.toList_inj.1 (by rw [Array.toList_map]; exact ha)]; simpa using hcf args w) hc h
theorem wq_load_var {n : Nat} {T : TypeId} (hT : BytesT P T n) {b : Nat} {s : Arr n} {e : TypeId} {fr : Nat × Nat} (hb : ∀ w, C w → w.heap[b]? = some (.cells (secA s) e fr)) (hw : Region.wanted ⟨dst, .load T x, ty, pos, af, gd⟩ (yielded ops a.tmps) = true) (hx : a.eval x = .pointer (some ⟨b, 0, none⟩))
    (h : wpQuiet P ops C Qs rest (a.put dst (.agg (secA s)))) : wpQuiet P ops C Qs (⟨dst, .load T x, ty, pos, af, gd⟩ :: rest) a :=
  wq_value hw (fun w hc => exec_load_var hT rfl (hb w hc) hx) h
theorem wq_load_in {n : Nat} {T : TypeId} (hT : BytesT P T n) {b i : Nat} {ls : List (Arr n)} {s : Arr n} (hb : ∀ w, C w → SecsIn w b ls) (hi : ls[i]? = some s) (hw : Region.wanted ⟨dst, .load T x, ty, pos, af, gd⟩ (yielded ops a.tmps) = true) (hx : a.eval x = .pointer (some ⟨b, i * n, none⟩))
    (h : wpQuiet P ops C Qs rest (a.put dst (.agg (secA s)))) : wpQuiet P ops C Qs (⟨dst, .load T x, ty, pos, af, gd⟩ :: rest) a :=
  wq_value hw (fun w hc => exec_load_in hT rfl (hb w hc) hi hx) h
theorem wq_neq_arr {n : Nat} {T : TypeId} (hT : BytesT P T n) {yt : TypeId} {s t : Arr n} (hw : Region.wanted ⟨dst, .binOp .neq T x y yt, ty, pos, af, gd⟩ (yielded ops a.tmps) = true) (hx : a.eval x = .agg (secA s)) (hy : a.eval y = .agg (secA t))
    (h : wpQuiet P ops C Qs rest (a.put dst (.bool (!decide (s = t))))) : wpQuiet P ops C Qs (⟨dst, .binOp .neq T x y yt, ty, pos, af, gd⟩ :: rest) a := by
  rw [← decide_arr] at h
  exact wq_value hw (fun w _ => exec_neq_bytes hT rfl hx hy s.h t.h) h
theorem wq_eql_arr {n : Nat} {T : TypeId} (hT : BytesT P T n) {yt : TypeId} {s t : Arr n} (hw : Region.wanted ⟨dst, .binOp .eql T x y yt, ty, pos, af, gd⟩ (yielded ops a.tmps) = true) (hx : a.eval x = .agg (secA s)) (hy : a.eval y = .agg (secA t))
    (h : wpQuiet P ops C Qs rest (a.put dst (.bool (decide (s = t))))) : wpQuiet P ops C Qs (⟨dst, .binOp .eql T x y yt, ty, pos, af, gd⟩ :: rest) a := by
  rw [← decide_arr] at h
  exact wq_value hw (fun w _ => exec_eql_bytes hT rfl hx hy s.h t.h) h
/-- One cell is read. -/
theorem run_loadVar_cell {T : TypeId} (hT : (P.underlying T).map (fun d => match d with | .struct _ | .array _ _ => true | _ => false) = some false) {w : World} {p : Addr} {v : Value} (hc : w.cell? p = some v) : (loadVar T p).run P w = .ok v w := by
  obtain ⟨d, hd, ha⟩ := Option.map_eq_some_iff.1 hT
  have h1 : (isAgg T).run P w = .ok false w := by
    unfold isAgg
    rw [Sem.run_bind, run_underlying hd w]
    cases d <;> simp_all
  simp [loadVar, Sem.run_bind, h1, hc]
theorem wq_load_cell {T : TypeId} (hT : (P.underlying T).map (fun d => match d with | .struct _ | .array _ _ => true | _ => false) = some false) {p : Addr} {v : Value} (hb : ∀ w, C w → w.cell? p = some v) (hw : Region.wanted ⟨dst, .load T x, ty, pos, af, gd⟩ (yielded ops a.tmps) = true) (hx : a.eval x = .pointer (some p))
    (h : wpQuiet P ops C Qs rest (a.put dst v)) : wpQuiet P ops C Qs (⟨dst, .load T x, ty, pos, af, gd⟩ :: rest) a :=
  wq_value hw (fun w hc => by unfold execOp; simp [hx, Instr.loadAt, Instr.sureAddr, run_loadVar_cell hT (hb w hc)]) h
end
section
variable {P : Program} {ops : Array Oper} {n : Nat} {Q : Exit → Act → World → Prop} {C : World → Prop}
theorem wanted_looks {o : Oper} {a full : Act} (hlook : ∀ t ∈ o.looksAt ops, a.tmps[t]? = full.tmps[t]?) : Region.wanted o (yielded ops a.tmps) = Region.wanted o (yielded ops full.tmps) := by
  unfold Region.wanted
  cases hg : o.guard with
  | none => rfl
  | some gb =>
    obtain ⟨g, b⟩ := gb
    simp only [yielded]
    cases hd : (ops[g]?).bind (·.dst) with
    | none => rfl
    | some d =>
      simp only [Option.bind_some]
      rw [hlook d (looks_guard hg hd)]
theorem stepOk_of_quiet {o : Oper} {a full : Act} {v : Value} (hs : ∀ cs b, o.op ≠ .select cs b) (hlook : ∀ t ∈ o.looksAt ops, a.tmps[t]? = full.tmps[t]?)
    (h : (Region.wanted o (yielded ops a.tmps) = true ∧ ∀ w, C w → o.quietAt P a C w v) ∨ (Region.wanted o (yielded ops a.tmps) = false ∧ v = undef)) : StepOk P ops full C o v := by
  have hev : execOp a.eval o = execOp full.eval o := execOp_congr o hs fun x hx => eval_eq fun t ht => by
    subst ht
    exact getD_of_get (hlook t (looks_operand hx))
  have hwa := wanted_looks hlook
  rw [hwa] at h
  rcases h with ⟨h1, h2⟩ | ⟨h1, h2⟩
  · refine .inr ⟨h1, fun w hw => ?_⟩
    have h3 := h2 w hw
    unfold Oper.quietAt at h3
    rw [hev] at h3
    generalize (execOp full.eval o).run P w = r at *
    cases r with
    | ok nx w' =>
      cases nx <;> simp only [Oper.quietUpon] at h3 <;> try exact h3.elim
      case value u => obtain ⟨rfl, rfl⟩ := h3; exact ⟨rfl, hw⟩
      case skip => obtain ⟨rfl, rfl⟩ := h3; exact ⟨rfl, hw⟩
      case enter f args => obtain ⟨rfl, h4⟩ := h3; exact h4
    | halt x w' => exact h3.elim
  · exact .inl ⟨h1, h2⟩
theorem listedN_succ (m k : Nat) : (listedN m k).setIfInBounds k true = listedN m (k + 1) := by
  apply Array.ext
  · simp [listedN]
  · intro j h1 h2
    simp only [listedN, List.setIfInBounds_toArray, List.getElem_toArray, List.getElem_set, List.getElem_map, List.getElem_range]
    by_cases e : k = j
    · subst e; simp
    · rw [if_neg e]; simp; omega
theorem listedN_zero (m : Nat) : Array.replicate m false = listedN m 0 := by
  apply Array.ext
  · simp [listedN]
  · intro j h1 h2; simp [listedN]
theorem quiet_steps {Qs : Act → Prop} {a0 : Act} {l : List Oper} (hsel : Region.noSelect l.toArray = true) (hhead : headB .any l.toArray n = true) (hn : n ≤ l.length) : ∀ (m k : Nat) (vs0 : Nat → Value) (a : Act), k + m = n →
    Agree l.toArray n vs0 a0 (listedN l.toArray.size k) a → wpQuiet P l.toArray C Qs ((l.take n).drop k) a →
    ∃ (vs : Nat → Value) (full : Act), (∀ j, j < k → vs j = vs0 j) ∧ Agree l.toArray n vs a0 (listedN l.toArray.size n) full ∧ Qs full ∧ ∀ i, k ≤ i → i < n → ∀ o, l[i]? = some o → StepOk P l.toArray full C o (vs i) := by
  have hall : ∀ j, j < n → (listedN l.toArray.size n).getD j false = true := by
    intro j hj
    have : j < l.length := by omega
    simp [listedN, this, hj]
  intro m
  induction m with
  | zero =>
    intro k vs0 a hk ha hq
    have : k = n := by omega
    subst this
    have d2 : (l.take k).drop k = [] := List.drop_of_length_le (by rw [List.length_take]; omega)
    rw [d2] at hq
    exact ⟨vs0, a, fun _ _ => rfl, ha, hq, fun i h1 h2 => by omega⟩
  | succ m ih =>
    intro k vs0 a hk ha hq
    obtain ⟨o, ho, haft, hlk, hd⟩ := headB_spec hhead (show k < n by omega)
    have ho' : l[k]? = some o := by simpa using ho
    have hkl : k < l.length := by omega
    have e1 : (l.take n).drop k = o :: (l.take n).drop (k + 1) := by
      rw [List.drop_eq_getElem_cons (by rw [List.length_take]; omega)]
      congr 1
      rw [List.getElem_take]
      exact (List.getElem?_eq_some_iff.1 ho').2
    rw [e1] at hq
    have hcase : ∃ v, ((Region.wanted o (yielded l.toArray a.tmps) = true ∧ ∀ w, C w → o.quietAt P a C w v) ∨ (Region.wanted o (yielded l.toArray a.tmps) = false ∧ v = undef)) ∧ wpQuiet P l.toArray C Qs ((l.take n).drop (k + 1)) (a.put o.dst v) := by
      unfold wpQuiet at hq
      split at hq
      · rename_i hw
        obtain ⟨v, h1, h2⟩ := hq
        exact ⟨v, .inl ⟨hw, h1⟩, h2⟩
      · rename_i hw
        exact ⟨undef, .inr ⟨by simpa using hw, rfl⟩, hq⟩
    obtain ⟨v, hv, hq'⟩ := hcase
    have hap := (ha.congr (vs' := updV vs0 k v) fun j hj => by
      have : j ≠ k := by
        rintro rfl
        have hj' : (listedN l.toArray.size j).getD j false = false := by simp [listedN, hkl]
        rw [hj'] at hj; cases hj
      simp [updV, this]).put ho (by simp [listedN]; exact hkl) hd
    rw [listedN_succ, show updV vs0 k v k = v by simp [updV]] at hap
    obtain ⟨vs, full, g1, g2, g3, g4⟩ := ih (k + 1) _ _ (by omega) hap hq'
    have hvk : vs k = v := by rw [g1 k (by omega)]; simp [updV]
    refine ⟨vs, full, fun j hj => by rw [g1 j (by omega)]; simp [updV]; omega, g2, g3, fun i h1 h2 o' ho2 => ?_⟩
    by_cases e : i = k
    · subst e
      have : o' = o := by rw [ho'] at ho2; exact (Option.some.inj ho2).symm
      subst this
      rw [hvk]
      refine stepOk_of_quiet (Region.noSelect_spec hsel i o' · · ho) (fun t ht => ?_) hv
      have ha' : Agree l.toArray n vs a0 (listedN l.toArray.size i) a := ha.congr fun j hj => by
        have hji : j < i := by
          rcases Nat.lt_or_ge j i with h | h
          · exact h
          · exfalso
            have hj' : (listedN l.toArray.size i).getD j false = false := by
              rcases Nat.lt_or_ge j l.length with h3 | h3
              · simp [listedN, h3]; omega
              · simp [listedN, h3]
            rw [hj'] at hj; cases hj
        rw [g1 j (by omega)]
        simp only [updV]
        rw [if_neg (by omega)]
      refine frame_looks ha' g2 hall fun j hj hdj => ?_
      obtain ⟨oj, hoj, e, he, hb, hon⟩ := Region.waitsFor_spec (hlk t ht j hj hdj)
      have : oj = o' := by rw [ho] at hoj; exact (Option.some.inj hoj).symm
      subst this
      have hlt := haft e he hb
      rw [hon] at hlt
      have hjl : j < l.length := by omega
      simp [listedN, hjl, hlt]
    · exact g4 i (by omega) h2 o' ho2
/-- The law: the first n operations are walked once, in the order of the text, in a class of worlds; whatever order they are carried out in, one frame comes of it; the others follow one behind the other. -/
theorem wp_region_walk {id : Nat} {a : Act} {w : World} {l : List Oper} (n : Nat) (hm : P.follows .mixedOrders = true) (hB : invB l.toArray n = true) (h0 : C w.drew)
    (h : wpQuiet P l.toArray C (fun full => ∀ w', C w' → wpList P l.toArray Q (l.drop n) full w') (l.take n) a) : (Code.region id l.toArray true).wp P Q a w := by
  have hB' := hB
  simp only [invB, Bool.and_eq_true, Bool.or_eq_true, decide_eq_true_eq] at hB'
  obtain ⟨⟨⟨⟨hsel, hn⟩, hsink⟩, hhead⟩, hseq⟩ := hB'
  have hn' : n ≤ l.length := by simpa using hn
  have hst : Agree l.toArray n (fun _ => undef) a (listedN l.toArray.size 0) a := by
    rw [← listedN_zero]; exact Agree.start _ _ _ _ _
  obtain ⟨vs, full, _, g2, g3, g4⟩ := quiet_steps hsel hhead hn' n 0 _ a (by omega) hst (by simpa using h)
  refine wp_region_any hm ?_
  have inv0 : HeadInv .any l.toArray n (Array.replicate l.toArray.size false) :=
    ⟨by simp, fun j oj _ hl => (by rw [getD_replicate_false] at hl; cases hl), fun t _ ht => getD_in (by simpa using ht) (getD_replicate_false _ _)⟩
  have hl0 : leftN n (Array.replicate l.toArray.size false) = n := by
    unfold leftN
    rw [List.filter_eq_self.2 (fun j _ => by rw [getD_replicate_false]; rfl), List.length_range]
  have := any_inv (P := P) (Q := Q) (Inv := C) hB g2 (fun i o hi ho => g4 i (by omega) hi o ho) g3 n _ a _ hl0 inv0 (Agree.start _ _ _ _ _) h0
  rwa [show n + (l.toArray.size - n) = l.toArray.size by omega] at this
end
theorem tch_drewN (w : World) (n : Nat) : Tch [] w (w.drewN n) := ⟨rfl, rfl, rfl, Nat.le_refl _, fun _ _ _ => rfl⟩
theorem drewN_heap {w : World} {b : Nat} {o : Obj} (h : w.heap[b]? = some o) : ∀ w', (∃ n, w' = w.drewN n) → w'.heap[b]? = some o := fun _ ⟨_, e⟩ => by subst e; exact h
theorem drewN_secs {w : World} {m : Nat} {b : Nat} {ls : List (Arr m)} (h : SecsIn w b ls) : ∀ w', (∃ n, w' = w.drewN n) → SecsIn w' b ls := fun _ ⟨k, e⟩ => by subst e; exact h.touch (tch_drewN w k) (by simp)
end Go.Cib
/-
  Small laws, for any program: a region whose order is open, of which some operations make memory: what each gives is known by what holds of it, not by its address; behind a gate all is settled and is walked once.
-/
namespace Go.Cib
open Go

/-- All operations from n on wait for number n - 1, or for one behind it that does; and it waits for all ahead of it. -/
def gateB (ops : Array Oper) (n : Nat) : Bool := Region.noSelect ops && decide (1 ≤ n ∧ n ≤ ops.size) && ((List.range (n - 1)).all fun i => (List.range n).any fun j => decide (i < j) && Region.waitsFor .any ops j i) &&
  ((List.range ops.size).all fun t => decide (t < n) || Region.waitsFor .any ops t (n - 1) || ((List.range ops.size).any fun s => decide (n ≤ s) && Region.waitsFor .any ops t s)) && headB .any ops n

section
variable {P : Program} {ops : Array Oper} {n : Nat} {Q : Exit → Act → World → Prop}

theorem gate_waits {listed : Array Bool} (hG : gateB ops n = true) (inv : HeadInv .any ops n listed) {i : Nat} (hi : i < n) (hu : listed.getD i false = false) {t : Nat} (ht : n ≤ t) : t ∉ Region.ready .any ops listed := by
  simp only [gateB, Bool.and_eq_true, decide_eq_true_eq] at hG
  obtain ⟨⟨⟨⟨_, hn⟩, hsink⟩, hall⟩, _⟩ := hG
  have hgate : listed.getD (n - 1) false = false := by
    have key : ∀ d i, n - 1 - i = d → i < n → listed.getD i false = false → listed.getD (n - 1) false = false := by
      intro d
      induction d using Nat.strongRecOn with
      | _ d ih =>
        intro i hd hi hu
        by_cases hin : i = n - 1
        · rw [← hin]; exact hu
        · have h1 := List.all_eq_true.1 hsink i (List.mem_range.2 (by omega))
          obtain ⟨j, hj, hj2⟩ := List.any_eq_true.1 h1
          simp only [Bool.and_eq_true, decide_eq_true_eq] at hj2
          have hjn := List.mem_range.1 hj
          obtain ⟨oj, hoj, e, he, hb, hon⟩ := Region.waitsFor_spec hj2.2
          cases hl : listed.getD j false with
          | true =>
            have h2 := inv.closed j oj hoj hl e he hb
            rw [hon, hu] at h2
            cases h2
          | false => exact ih (n - 1 - j) (by omega) j rfl hjn hl
    exact key _ i rfl hi hu
  intro hr
  obtain ⟨_, ot, hot, hdone⟩ := mem_ready.1 hr
  have htlt : t < ops.size := (Array.getElem?_eq_some_iff.1 hot).1
  have h1 := List.all_eq_true.1 hall t (List.mem_range.2 htlt)
  simp only [Bool.or_eq_true, decide_eq_true_eq] at h1
  rcases h1 with (h1 | h1) | h1
  · omega
  · obtain ⟨o', ho', e, he, hb, hon⟩ := Region.waitsFor_spec h1
    have : o' = ot := Option.some.inj (ho'.symm.trans hot)
    subst this
    have h2 := hdone e he hb
    rw [hon, hgate] at h2
    cases h2
  · obtain ⟨s, hs, hs2⟩ := List.any_eq_true.1 h1
    simp only [Bool.and_eq_true, decide_eq_true_eq] at hs2
    obtain ⟨o', ho', e, he, hb, hon⟩ := Region.waitsFor_spec hs2.2
    have : o' = ot := Option.some.inj (ho'.symm.trans hot)
    subst this
    have h2 := hdone e he hb
    have h3 := inv.tail s hs2.1 (List.mem_range.1 hs)
    rw [hon, getD_both h3] at h2
    cases h2

theorem any_rel_gate {Inv : Array Bool → (Nat → Value) → World → Prop} {a0 : Act} {l : List Oper} (hG : gateB l.toArray n = true)
    (step : ∀ i o, i < n → l[i]? = some o → ∀ (listed : Array Bool) (vs : Nat → Value) (w : World), Inv listed vs w → i < listed.size → listed.getD i false = false → (∀ j, Region.waitsFor .any l.toArray i j = true → listed.getD j false = true) →
      (Region.wanted o (yielded l.toArray (fullOf a0 l n vs).tmps) = true → StpR P (fun u w' => Inv (listed.setIfInBounds i true) (updV vs i u) w') ((execOp (fullOf a0 l n vs).eval o).run P w)) ∧
      (Region.wanted o (yielded l.toArray (fullOf a0 l n vs).tmps) = false → Inv (listed.setIfInBounds i true) (updV vs i undef) w))
    (tail : ∀ vs w', HeadInv .any l.toArray n (listedN l.toArray.size n) → Inv (listedN l.toArray.size n) vs w' → wpAny P .any l.toArray Q (l.toArray.size - n) (listedN l.toArray.size n) (fullOf a0 l n vs) w') :
    ∀ (c : Nat) (listed : Array Bool) (vs : Nat → Value) (a : Act) (w : World), leftN n listed = c → HeadInv .any l.toArray n listed → Agree l.toArray n vs a0 listed a → Inv listed vs w →
      wpAny P .any l.toArray Q (c + (l.toArray.size - n)) listed a w := by
  have hG' := hG
  simp only [gateB, Bool.and_eq_true, decide_eq_true_eq] at hG'
  obtain ⟨⟨⟨⟨hsel, hn⟩, hsink⟩, hall'⟩, hhead⟩ := hG'
  have hn' : n ≤ l.length := by simp at hn; omega
  have hall : ∀ j, j < n → (listedN l.toArray.size n).getD j false = true := by
    intro j hj
    have : j < l.length := by omega
    simp [listedN, this, hj]
  intro c
  induction c with
  | zero =>
    intro listed vs a w hc inv hag hw
    have h1 := leftN_zero hc
    have he := listed_eq inv.size h1 inv.tail
    subst he
    have hau := hag.unique (putAll_agreeF hhead hn')
    subst hau
    rw [Nat.zero_add]
    exact tail vs w inv hw
  | succ c ih =>
    intro listed vs a w hc inv hag hw
    obtain ⟨i0, g1, g2, g3⟩ := leftN_pos (n := n) (listed := listed) (by omega)
    have hin : i0 < listed.size := by rw [inv.size]; omega
    obtain ⟨o0, ho0, hon, _, _⟩ := headB_spec hhead g1
    have hready : i0 ∈ Region.ready .any l.toArray listed := mem_ready.2 ⟨getD_in hin g2, o0, ho0, fun e he hb => g3 _ (hon e he hb)⟩
    rw [show c + 1 + (l.toArray.size - n) = (c + (l.toArray.size - n)) + 1 by omega]
    refine ⟨fun h => (by rw [h] at hready; cases hready), fun i hi => ?_⟩
    have hilt : i < n := by
      rcases Nat.lt_or_ge i n with h | h
      · exact h
      · exfalso
        obtain ⟨hil, oi, hoi, _⟩ := mem_ready.1 hi
        have hisz : i < l.toArray.size := (Array.getElem?_eq_some_iff.1 hoi).1
        exact gate_waits hG inv g1 g2 h hi
    obtain ⟨hil, oi, hoi, hall'⟩ := mem_ready.1 hi
    obtain ⟨o, ho, _, hlk, hdst⟩ := headB_spec hhead hilt
    have hoo : oi = o := by rw [ho] at hoi; simpa using hoi.symm
    subst hoo
    have hil2 : i < listed.size := by rw [inv.size]; exact (Array.getElem?_eq_some_iff.1 ho).1
    have hwf : ∀ j, Region.waitsFor .any l.toArray i j = true → listed.getD j false = true := by
      intro j hj
      obtain ⟨oj, hoj, e, he, hb, hon'⟩ := Region.waitsFor_spec hj
      have : oj = oi := by rw [ho] at hoj; simpa using hoj.symm
      subst this
      have := hall' e he hb
      rw [hon'] at this
      exact this
    refine wpOp_stepR ho (Region.noSelect_spec hsel i oi · · ho) (fun t ht => frame_looks hag (putAll_agreeF hhead hn') hall fun j hj hd => hwf j (hlk t ht j hj hd)) (step i oi hilt (by simpa using ho) listed vs w hw hil2 (getD_both hil) hwf) (fun u w' hw' => ?_)
    have hag2 : Agree l.toArray n (updV vs i u) a0 listed a := hag.congr fun j hj => by
      have : j ≠ i := by rintro rfl; rw [getD_both hil] at hj; cases hj
      simp [updV, this]
    have hp := hag2.put ho hil2 hdst
    rw [show updV vs i u i = u by simp [updV]] at hp
    refine ih _ _ _ w' ?_ (inv.set hi hilt) hp hw'
    have := leftN_set (n := n) hilt hil2 (getD_both hil)
    omega


theorem StpR.mono {K K' : Value → World → Prop} {r : Result Next} (h : StpR P K r) (hk : ∀ u w, K u w → K' u w) : StpR P K' r := by
  cases r with
  | ok nx w =>
    cases nx <;> simp only [StpR] at h ⊢ <;> try exact h.elim
    case value u => exact hk _ _ h
    case skip => exact hk _ _ h
    case enter f args => exact Calls.mono h fun e w' ⟨u, he, hu⟩ => ⟨u, he, hk _ _ hu⟩
  | halt x w => exact h.elim

/-- The frame behind the first part, as one in which the first n1 are done. -/
theorem agree_part {a : Act} {l : List Oper} {n1 n : Nat} {vs : Nat → Value} (hhead1 : headB .any l.toArray n1 = true) (hn1' : n1 ≤ l.length) (hnn : n1 ≤ n) (hn' : n ≤ l.length) : Agree l.toArray n vs a (listedN l.toArray.size n1) (fullOf a l n1 vs) := by
  have hst := putAll_agreeF (a0 := a) (vs := vs) hhead1 hn1'
  refine ⟨hst.defers, hst.size, fun t ht => ?_⟩
  rw [hst.tmps t ht]
  congr 1
  obtain ⟨m1, m2⟩ := headOf_more (ops := l.toArray) (t := t) hnn
  cases h1 : headOf l.toArray n1 t with
  | some j => rw [m1 j h1]
  | none =>
    cases h2 : headOf l.toArray n t with
    | none => rfl
    | some j =>
      simp only
      have hj := m2 h1 j h2
      have hjl : j < l.length := by have := (headOf_some h2).1; omega
      rw [if_neg]
      simp [listedN, hjl]
      omega

/-- The law. -/
theorem wp_region_vals {id : Nat} {a : Act} {w : World} {l : List Oper} (n1 n : Nat) (C : World → Prop) (K : Nat → Value → World → Prop) (hm : P.follows .mixedOrders = true) (hG : gateB l.toArray n1 = true) (hB : invB l.toArray n = true) (hnn : n1 ≤ n) (h0 : C w.drew)
    (mono : ∀ w w', C w → C w' → Tch [] w w' → ∀ i v, K i v w → K i v w')
    (step : ∀ i o, i < n1 → l[i]? = some o → ∀ (fu : Act) (w' : World), C w' → (∀ t, t < a.tmps.size → headOf l.toArray n1 t = none → fu.eval (.tmp t) = a.tmps.getD t undef) →
      (∀ j t, t < a.tmps.size → Region.waitsFor .any l.toArray i j = true → headOf l.toArray n1 t = some j → K j (fu.eval (.tmp t)) w') →
      (Region.wanted o (yielded l.toArray fu.tmps) = true → StpR P (fun u w'' => K i u w'' ∧ C w'' ∧ Tch [] w' w'') ((execOp fu.eval o).run P w')) ∧ (Region.wanted o (yielded l.toArray fu.tmps) = false → K i undef w'))
    (mid : ∀ vs w', C w' → (∀ j, j < n1 → K j (vs j) w') → ∃ C2 : World → Prop, C2 w' ∧ wpQuiet P l.toArray C2 (fun full => ∀ w'', C2 w'' → wpList P l.toArray Q (l.drop n) full w'') ((l.take n).drop n1) (fullOf a l n1 vs)) :
    (Code.region id l.toArray true).wp P Q a w := by
  have hG' := hG
  simp only [gateB, Bool.and_eq_true, decide_eq_true_eq] at hG'
  obtain ⟨⟨⟨⟨hsel, hn1⟩, _⟩, _⟩, hhead1⟩ := hG'
  have hB' := hB
  simp only [invB, Bool.and_eq_true, Bool.or_eq_true, decide_eq_true_eq] at hB'
  obtain ⟨⟨⟨⟨_, hn⟩, _⟩, hhead⟩, _⟩ := hB'
  have hn' : n ≤ l.length := by simpa using hn
  have hn1' : n1 ≤ l.length := by omega
  refine wp_region_any hm ?_
  have inv0 : HeadInv .any l.toArray n1 (Array.replicate l.toArray.size false) :=
    ⟨by simp, fun j oj _ hl => (by rw [getD_replicate_false] at hl; cases hl), fun t _ ht => getD_in (by simpa using ht) (getD_replicate_false _ _)⟩
  have hl0 : leftN n1 (Array.replicate l.toArray.size false) = n1 := by
    unfold leftN
    rw [List.filter_eq_self.2 (fun j _ => by rw [getD_replicate_false]; rfl), List.length_range]
  have hall1 : ∀ j, j < n1 → (listedN l.toArray.size n1).getD j false = true := by
    intro j hj
    have : j < l.length := by omega
    simp [listedN, this, hj]
  have := any_rel_gate (P := P) (Q := Q) (Inv := fun listed vs w => C w ∧ ∀ j, j < n1 → listed.getD j false = true → K j (vs j) w) (a0 := a) hG ?_ ?_ n1 _ (fun _ => undef) a _ hl0 inv0 (Agree.start _ _ _ _ _) ⟨h0, fun j _ hl => (by rw [getD_replicate_false] at hl; cases hl)⟩
  · rwa [show n1 + (l.toArray.size - n1) = l.toArray.size by omega] at this
  · intro i o hi ho listed vs w' hinv hsz hun hwait
    obtain ⟨hC, hK⟩ := hinv
    have hag := putAll_agreeF (a0 := a) (vs := vs) hhead1 hn1'
    obtain ⟨s1, s2⟩ := step i o hi ho (fullOf a l n1 vs) w' hC (fun t ht hh => by
      have h := hag.tmps t ht
      rw [hh] at h
      show (fullOf a l n1 vs).tmps.getD t undef = _
      rw [Array.getD_eq_getD_getElem?, h]; rfl) (fun j t ht hw hh => by
      have h := hag.tmps t ht
      rw [hh] at h
      have hj := (headOf_some hh).1
      simp only [hall1 j hj, if_true] at h
      show K j ((fullOf a l n1 vs).tmps.getD t undef) w'
      rw [Array.getD_eq_getD_getElem?, h]
      exact hK j hj (hwait j hw))
    refine ⟨fun hw => (s1 hw).mono ?_, fun hw => ⟨hC, fun j hj hl => ?_⟩⟩
    · rintro u w'' ⟨k1, k2, k3⟩
      refine ⟨k2, fun j hj hl => ?_⟩
      unfold updV
      by_cases e : j = i
      · subst e; rw [if_pos rfl]; exact k1
      · rw [if_neg e]; exact mono _ _ hC k2 k3 _ _ (hK j hj (by rwa [getD_set_ne false (Ne.symm e)] at hl))
    · unfold updV
      by_cases e : j = i
      · subst e; rw [if_pos rfl]; exact s2 hw
      · rw [if_neg e]; exact hK j hj (by rwa [getD_set_ne false (Ne.symm e)] at hl)
  · intro vs w' hinv hI
    obtain ⟨C2, hC2, hq⟩ := mid vs w' hI.1 fun j hj => hI.2 j hj (hall1 j hj)
    have hag := agree_part (a := a) (vs := vs) hhead1 hn1' hnn hn'
    obtain ⟨vs2, full, g1, g2, g3, g4⟩ := quiet_steps hsel hhead hn' (n - n1) n1 vs _ (by omega) hag hq
    have hag2 : Agree l.toArray n vs2 a (listedN l.toArray.size n1) (fullOf a l n1 vs) := hag.congr fun j hj => by
      rcases Nat.lt_or_ge j n1 with h | h
      · exact (g1 j h).symm
      · exfalso
        have hj' : (listedN l.toArray.size n1).getD j false = false := by
          rcases Nat.lt_or_ge j l.length with h3 | h3
          · simp [listedN, h3]; omega
          · simp [listedN, h3]
        rw [hj'] at hj; cases hj
    have hleft : leftN n (listedN l.toArray.size n1) = n - n1 := by
      unfold leftN
      obtain ⟨k, rfl⟩ := Nat.exists_eq_add_of_le hnn
      rw [List.range_add, List.filter_append, List.length_append]
      rw [List.filter_eq_nil_iff.2 (fun j hj => by
        have hj' := List.mem_range.1 hj
        have : j < l.length := by omega
        simp [listedN, this, hj'])]
      rw [List.filter_eq_self.2 (fun j hj => by
        obtain ⟨x, hx, rfl⟩ := List.mem_map.1 hj
        have hx' := List.mem_range.1 hx
        have : n1 + x < l.length := by omega
        simp [listedN, this])]
      simp
    have hh : HeadInv .any l.toArray n (listedN l.toArray.size n1) := ⟨hinv.size, hinv.closed, fun t h1 h2 => hinv.tail t (by omega) h2⟩
    have := any_inv_from (P := P) (Q := Q) (Inv := C2) n1 hB g2 (fun i o h1 h2 ho => g4 i h1 h2 o ho) g3 (n - n1) _ _ w' hleft (fun j hj => by
      have : j < l.length := by omega
      simp [listedN, this, hj]) hh hag2 hC2
    rwa [show n - n1 + (l.toArray.size - n) = l.toArray.size - n1 by omega] at this

/-- The same, ahead of operations that are forced one behind the other. -/
theorem wp_region_valt {id : Nat} {a : Act} {w : World} {l : List Oper} (n1 : Nat) (C : World → Prop) (K : Nat → Value → World → Prop) (hm : P.follows .mixedOrders = true) (hG : midB l.toArray n1 = true) (hB : invB l.toArray n1 = true) (h0 : C w.drew)
    (mono : ∀ w w', C w → C w' → Tch [] w w' → ∀ i v, K i v w → K i v w')
    (step : ∀ i o, i < n1 → l[i]? = some o → ∀ (fu : Act) (w' : World), C w' → (∀ t, t < a.tmps.size → headOf l.toArray n1 t = none → fu.eval (.tmp t) = a.tmps.getD t undef) →
      (∀ j t, t < a.tmps.size → Region.waitsFor .any l.toArray i j = true → headOf l.toArray n1 t = some j → K j (fu.eval (.tmp t)) w') →
      (Region.wanted o (yielded l.toArray fu.tmps) = true → StpR P (fun u w'' => K i u w'' ∧ C w'' ∧ Tch [] w' w'') ((execOp fu.eval o).run P w')) ∧ (Region.wanted o (yielded l.toArray fu.tmps) = false → K i undef w'))
    (tail : ∀ vs w', C w' → (∀ j, j < n1 → K j (vs j) w') → wpList P l.toArray Q (l.drop n1) (fullOf a l n1 vs) w') :
    (Code.region id l.toArray true).wp P Q a w := by
  have hB' := hB
  simp only [invB, Bool.and_eq_true, Bool.or_eq_true, decide_eq_true_eq] at hB'
  obtain ⟨⟨⟨⟨hsel, hn⟩, _⟩, hhead1⟩, hseq⟩ := hB'
  have hn1' : n1 ≤ l.length := by simpa using hn
  refine wp_region_any hm ?_
  have inv0 : HeadInv .any l.toArray n1 (Array.replicate l.toArray.size false) :=
    ⟨by simp, fun j oj _ hl => (by rw [getD_replicate_false] at hl; cases hl), fun t _ ht => getD_in (by simpa using ht) (getD_replicate_false _ _)⟩
  have hl0 : leftN n1 (Array.replicate l.toArray.size false) = n1 := by
    unfold leftN
    rw [List.filter_eq_self.2 (fun j _ => by rw [getD_replicate_false]; rfl), List.length_range]
  have hall1 : ∀ j, j < n1 → (listedN l.toArray.size n1).getD j false = true := by
    intro j hj
    have : j < l.length := by omega
    simp [listedN, this, hj]
  have := any_rel_mid (P := P) (Q := Q) (Inv := fun listed vs w => C w ∧ ∀ j, j < n1 → listed.getD j false = true → K j (vs j) w) (a0 := a) hG ?_ ?_ n1 _ (fun _ => undef) a _ hl0 inv0 (Agree.start _ _ _ _ _) ⟨h0, fun j _ hl => (by rw [getD_replicate_false] at hl; cases hl)⟩
  · rwa [show n1 + (l.toArray.size - n1) = l.toArray.size by omega] at this
  · intro i o hi ho listed vs w' hinv hsz hun hwait
    obtain ⟨hC, hK⟩ := hinv
    have hag := putAll_agreeF (a0 := a) (vs := vs) hhead1 hn1'
    obtain ⟨s1, s2⟩ := step i o hi ho (fullOf a l n1 vs) w' hC (fun t ht hh => by
      have h := hag.tmps t ht
      rw [hh] at h
      show (fullOf a l n1 vs).tmps.getD t undef = _
      rw [Array.getD_eq_getD_getElem?, h]; rfl) (fun j t ht hw hh => by
      have h := hag.tmps t ht
      rw [hh] at h
      have hj := (headOf_some hh).1
      simp only [hall1 j hj, if_true] at h
      show K j ((fullOf a l n1 vs).tmps.getD t undef) w'
      rw [Array.getD_eq_getD_getElem?, h]
      exact hK j hj (hwait j hw))
    refine ⟨fun hw => (s1 hw).mono ?_, fun hw => ⟨hC, fun j hj hl => ?_⟩⟩
    · rintro u w'' ⟨k1, k2, k3⟩
      refine ⟨k2, fun j hj hl => ?_⟩
      unfold updV
      by_cases e : j = i
      · subst e; rw [if_pos rfl]; exact k1
      · rw [if_neg e]; exact mono _ _ hC k2 k3 _ _ (hK j hj (by rwa [getD_set_ne false (Ne.symm e)] at hl))
    · unfold updV
      by_cases e : j = i
      · subst e; rw [if_pos rfl]; exact s2 hw
      · rw [if_neg e]; exact hK j hj (by rwa [getD_set_ne false (Ne.symm e)] at hl)
  · intro vs w' hinv hI
    have hdl : (l.drop n1).length = l.toArray.size - n1 := by simp
    rw [← hdl]
    refine wpAny_of_seq (l.drop n1) n1 _ _ w' (fun j => by simp [List.getElem?_drop]) ?_ (tail vs w' hI.1 fun j hj => hI.2 j hj (hall1 j hj))
    rw [hdl]; exact hseq
end
end Go.Cib
