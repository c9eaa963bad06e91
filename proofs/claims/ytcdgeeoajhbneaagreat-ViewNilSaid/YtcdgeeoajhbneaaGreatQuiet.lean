/-
  Small laws, for any program: a region whose order is open, walked once in the order of the text, in a class of worlds: loads of whole arrays, compares of them, calls that hand back one value in every world of the class.
-/
import Derived.Test.YtcdgeeoajhbneaaGreatRegion
import Derived.BigQuiet
import Derived.Test.YtcdgeeoajhbneaaGreatSecsG
namespace Go.Cib
open Go Go.RowKit
section
variable {P : Program} {ops : Array Oper} {C : World → Prop} {Qs : Act → Prop} {rest : List Oper} {a : Act} {dst : Option Tmp} {ty : TypeId} {pos : String} {af : Array Edge} {x y : Operand} {gd : Option (Nat × Bool)}
theorem wq_value {o : Oper} (hw : Region.wanted o (yielded ops a.tmps) = true) {v : Value} (hrun : ∀ w, C w → (execOp a.eval o).run P w = .ok (.value v) w) (h : wpQuiet P ops C Qs rest (a.put o.dst v)) : wpQuiet P ops C Qs (o :: rest) a :=
  wpQuiet_step fun K hK => by
    rw [if_pos hw]
    exact ⟨v, fun w hc => by unfold Oper.quietAt; rw [hrun w hc]; exact ⟨rfl, rfl⟩, hK _ h⟩
theorem wq_call {o : Oper} (hw : Region.wanted o (yielded ops a.tmps) = true) {f : FuncId} {args : Array Value} {v : Value} (hrun : ∀ w, (execOp a.eval o).run P w = .ok (.enter f args) w) (hc : ∀ w, C w → Calls P f args w (fun e w'' => e = .returned v ∧ C w'')) (h : wpQuiet P ops C Qs rest (a.put o.dst v)) : wpQuiet P ops C Qs (o :: rest) a :=
  wpQuiet_step fun K hK => by
    rw [if_pos hw]
    exact ⟨v, fun w h2 => by unfold Oper.quietAt; rw [hrun w]; exact ⟨rfl, hc w h2⟩, hK _ h⟩
/-- A call of a function of the program's own: it hands back one value in every world of the class. -/
theorem wq_fn {f : FuncId} (hcf : ∀ (args : Array Value) (w : World), (callFunc f args).run P w = .ok (.enter f args) w) {ar : Array Operand} {ts : Array TypeId} {args : Array Value} {v : Value}
    (hw : Region.wanted ⟨dst, .call { callee := .value (.func f), args := ar, argTypes := ts }, ty, pos, af, gd⟩ (yielded ops a.tmps) = true) (ha : ar.toList.map a.eval = args.toList)
    (hc : ∀ w, C w → Calls P f args w (fun e w'' => e = .returned v ∧ C w'')) (h : wpQuiet P ops C Qs rest (a.put dst v)) :
    wpQuiet P ops C Qs (⟨dst, .call { callee := .value (.func f), args := ar, argTypes := ts }, ty, pos, af, gd⟩ :: rest) a :=
  wq_call hw (fun w => by rw [execOp_call_go, show ar.map a.eval = args from Array.toList_inj.1 (by rw [Array.toList_map]; exact ha)]; simpa using hcf args w) hc h
theorem wq_load_var {n : Nat} {T : TypeId} (hT : BytesT P T n) {b : Nat} {s : Arr n} {e : TypeId} {fr : Nat × Nat} (hb : ∀ w, C w → w.heap[b]? = some (.cells (secA s) e fr)) (hw : Region.wanted ⟨dst, .load T x, ty, pos, af, gd⟩ (yielded ops a.tmps) = true) (hx : a.eval x = .pointer (some ⟨b, 0, none⟩))
    (h : wpQuiet P ops C Qs rest (a.put dst (.agg (secA s)))) : wpQuiet P ops C Qs (⟨dst, .load T x, ty, pos, af, gd⟩ :: rest) a :=
  wq_value hw (fun w hc => exec_load_var hT rfl (hb w hc) hx) h
theorem wq_load_in {n : Nat} {T : TypeId} (hT : BytesT P T n) {b i : Nat} {ls : List (Arr n)} {s : Arr n} (hb : ∀ w, C w → SecsIn w b ls) (hi : ls[i]? = some s) (hw : Region.wanted ⟨dst, .load T x, ty, pos, af, gd⟩ (yielded ops a.tmps) = true) (hx : a.eval x = .pointer (some ⟨b, i * n, none⟩))
    (h : wpQuiet P ops C Qs rest (a.put dst (.agg (secA s)))) : wpQuiet P ops C Qs (⟨dst, .load T x, ty, pos, af, gd⟩ :: rest) a :=
  wq_value hw (fun w hc => exec_load_in hT rfl (hb w hc) hi hx) h
theorem wq_neq_arr {n : Nat} {T : TypeId} (hT : BytesT P T n) {yt : TypeId} {s t : Arr n} (hw : Region.wanted ⟨dst, .binOp .neq T x y yt, ty, pos, af, gd⟩ (yielded ops a.tmps) = true) (hx : a.eval x = .agg (secA s)) (hy : a.eval y = .agg (secA t))
    (h : wpQuiet P ops C Qs rest (a.put dst (.bool (!decide (s = t))))) : wpQuiet P ops C Qs (⟨dst, .binOp .neq T x y yt, ty, pos, af, gd⟩ :: rest) a := by
  rw [← decide_arr] at h
  exact wq_value hw (fun w _ => exec_neq_bytes hT rfl hx hy s.h t.h) h
theorem wq_eql_arr {n : Nat} {T : TypeId} (hT : BytesT P T n) {yt : TypeId} {s t : Arr n} (hw : Region.wanted ⟨dst, .binOp .eql T x y yt, ty, pos, af, gd⟩ (yielded ops a.tmps) = true) (hx : a.eval x = .agg (secA s)) (hy : a.eval y = .agg (secA t))
    (h : wpQuiet P ops C Qs rest (a.put dst (.bool (decide (s = t))))) : wpQuiet P ops C Qs (⟨dst, .binOp .eql T x y yt, ty, pos, af, gd⟩ :: rest) a := by
  rw [← decide_arr] at h
  exact wq_value hw (fun w _ => exec_eql_bytes hT rfl hx hy s.h t.h) h
/-- One cell is read. -/
theorem run_loadVar_cell {T : TypeId} (hT : (P.underlying T).map (fun d => match d with | .struct _ | .array _ _ => true | _ => false) = some false) {w : World} {p : Addr} {v : Value} (hc : w.cell? p = some v) : (loadVar T p).run P w = .ok v w := by
  obtain ⟨d, hd, ha⟩ := Option.map_eq_some_iff.1 hT
  have h1 : (isAgg T).run P w = .ok false w := by
    unfold isAgg
    rw [Sem.run_bind, run_underlying hd w]
    cases d <;> simp_all
  simp [loadVar, Sem.run_bind, h1, hc]
theorem wq_load_cell {T : TypeId} (hT : (P.underlying T).map (fun d => match d with | .struct _ | .array _ _ => true | _ => false) = some false) {p : Addr} {v : Value} (hb : ∀ w, C w → w.cell? p = some v) (hw : Region.wanted ⟨dst, .load T x, ty, pos, af, gd⟩ (yielded ops a.tmps) = true) (hx : a.eval x = .pointer (some p))
    (h : wpQuiet P ops C Qs rest (a.put dst v)) : wpQuiet P ops C Qs (⟨dst, .load T x, ty, pos, af, gd⟩ :: rest) a :=
  wq_value hw (fun w hc => by unfold execOp; simp [hx, Instr.loadAt, Instr.sureAddr, run_loadVar_cell hT (hb w hc)]) h
end
section
variable {P : Program} {ops : Array Oper} {n : Nat} {Q : Exit → Act → World → Prop} {C : World → Prop}
theorem wanted_looks {o : Oper} {a full : Act} (hlook : ∀ t ∈ o.looksAt ops, a.tmps[t]? = full.tmps[t]?) : Region.wanted o (yielded ops a.tmps) = Region.wanted o (yielded ops full.tmps) := by
  unfold Region.wanted
  cases hg : o.guard with
  | none => rfl
  | some gb =>
    obtain ⟨g, b⟩ := gb
    simp only [yielded]
    cases hd : (ops[g]?).bind (·.dst) with
    | none => rfl
    | some d =>
      simp only [Option.bind_some]
      rw [hlook d (looks_guard hg hd)]
theorem stepOk_of_quiet {o : Oper} {a full : Act} {v : Value} (hs : ∀ cs b, o.op ≠ .select cs b) (hlook : ∀ t ∈ o.looksAt ops, a.tmps[t]? = full.tmps[t]?)
    (h : (Region.wanted o (yielded ops a.tmps) = true ∧ ∀ w, C w → o.quietAt P a C w v) ∨ (Region.wanted o (yielded ops a.tmps) = false ∧ v = undef)) : StepOk P ops full C o v := by
  have hev : execOp a.eval o = execOp full.eval o := execOp_congr o hs fun x hx => eval_eq fun t ht => by
    subst ht
    exact getD_of_get (hlook t (looks_operand hx))
  have hwa := wanted_looks hlook
  rw [hwa] at h
  rcases h with ⟨h1, h2⟩ | ⟨h1, h2⟩
  · refine .inr ⟨h1, fun w hw => ?_⟩
    have h3 := h2 w hw
    unfold Oper.quietAt at h3
    rw [hev] at h3
    generalize (execOp full.eval o).run P w = r at *
    cases r with
    | ok nx w' =>
      cases nx <;> simp only [Oper.quietUpon] at h3 <;> try exact h3.elim
      case value u => obtain ⟨rfl, rfl⟩ := h3; exact ⟨rfl, hw⟩
      case skip => obtain ⟨rfl, rfl⟩ := h3; exact ⟨rfl, hw⟩
      case enter f args => obtain ⟨rfl, h4⟩ := h3; exact h4
    | halt x w' => exact h3.elim
  · exact .inl ⟨h1, h2⟩
theorem listedN_succ (m k : Nat) : (listedN m k).setIfInBounds k true = listedN m (k + 1) := by
  apply Array.ext
  · simp [listedN]
  · intro j h1 h2
    simp only [listedN, List.setIfInBounds_toArray, List.getElem_toArray, List.getElem_set, List.getElem_map, List.getElem_range]
    by_cases e : k = j
    · subst e; simp
    · rw [if_neg e]; simp; omega
theorem listedN_zero (m : Nat) : Array.replicate m false = listedN m 0 := by
  apply Array.ext
  · simp [listedN]
  · intro j h1 h2; simp [listedN]
theorem quiet_steps {Qs : Act → Prop} {a0 : Act} {l : List Oper} (hsel : Region.noSelect l.toArray = true) (hhead : headB .any l.toArray n = true) (hn : n ≤ l.length) : ∀ (m k : Nat) (vs0 : Nat → Value) (a : Act), k + m = n →
    Agree l.toArray n vs0 a0 (listedN l.toArray.size k) a → wpQuiet P l.toArray C Qs ((l.take n).drop k) a →
    ∃ (vs : Nat → Value) (full : Act), (∀ j, j < k → vs j = vs0 j) ∧ Agree l.toArray n vs a0 (listedN l.toArray.size n) full ∧ Qs full ∧ ∀ i, k ≤ i → i < n → ∀ o, l[i]? = some o → StepOk P l.toArray full C o (vs i) := by
  have hall : ∀ j, j < n → (listedN l.toArray.size n).getD j false = true := by
    intro j hj
    have : j < l.length := by omega
    simp [listedN, this, hj]
  intro m
  induction m with
  | zero =>
    intro k vs0 a hk ha hq
    have : k = n := by omega
    subst this
    have d2 : (l.take k).drop k = [] := List.drop_of_length_le (by rw [List.length_take]; omega)
    rw [d2] at hq
    exact ⟨vs0, a, fun _ _ => rfl, ha, hq, fun i h1 h2 => by omega⟩
  | succ m ih =>
    intro k vs0 a hk ha hq
    obtain ⟨o, ho, haft, hlk, hd⟩ := headB_spec hhead (show k < n by omega)
    have ho' : l[k]? = some o := by simpa using ho
    have hkl : k < l.length := by omega
    have e1 : (l.take n).drop k = o :: (l.take n).drop (k + 1) := by
      rw [List.drop_eq_getElem_cons (by rw [List.length_take]; omega)]
      congr 1
      rw [List.getElem_take]
      exact (List.getElem?_eq_some_iff.1 ho').2
    rw [e1] at hq
    have hcase : ∃ v, ((Region.wanted o (yielded l.toArray a.tmps) = true ∧ ∀ w, C w → o.quietAt P a C w v) ∨ (Region.wanted o (yielded l.toArray a.tmps) = false ∧ v = undef)) ∧ wpQuiet P l.toArray C Qs ((l.take n).drop (k + 1)) (a.put o.dst v) := by
      unfold wpQuiet at hq
      split at hq
      · rename_i hw
        obtain ⟨v, h1, h2⟩ := hq
        exact ⟨v, .inl ⟨hw, h1⟩, h2⟩
      · rename_i hw
        exact ⟨undef, .inr ⟨by simpa using hw, rfl⟩, hq⟩
    obtain ⟨v, hv, hq'⟩ := hcase
    have hap := (ha.congr (vs' := updV vs0 k v) fun j hj => by
      have : j ≠ k := by
        rintro rfl
        have hj' : (listedN l.toArray.size j).getD j false = false := by simp [listedN, hkl]
        rw [hj'] at hj; cases hj
      simp [updV, this]).put ho (by simp [listedN]; exact hkl) hd
    rw [listedN_succ, show updV vs0 k v k = v by simp [updV]] at hap
    obtain ⟨vs, full, g1, g2, g3, g4⟩ := ih (k + 1) _ _ (by omega) hap hq'
    have hvk : vs k = v := by rw [g1 k (by omega)]; simp [updV]
    refine ⟨vs, full, fun j hj => by rw [g1 j (by omega)]; simp [updV]; omega, g2, g3, fun i h1 h2 o' ho2 => ?_⟩
    by_cases e : i = k
    · subst e
      have : o' = o := by rw [ho'] at ho2; exact (Option.some.inj ho2).symm
      subst this
      rw [hvk]
      refine stepOk_of_quiet (Region.noSelect_spec hsel i o' · · ho) (fun t ht => ?_) hv
      have ha' : Agree l.toArray n vs a0 (listedN l.toArray.size i) a := ha.congr fun j hj => by
        have hji : j < i := by
          rcases Nat.lt_or_ge j i with h | h
          · exact h
          · exfalso
            have hj' : (listedN l.toArray.size i).getD j false = false := by
              rcases Nat.lt_or_ge j l.length with h3 | h3
              · simp [listedN, h3]; omega
              · simp [listedN, h3]
            rw [hj'] at hj; cases hj
        rw [g1 j (by omega)]
        simp only [updV]
        rw [if_neg (by omega)]
      refine frame_looks ha' g2 hall fun j hj hdj => ?_
      obtain ⟨oj, hoj, e, he, hb, hon⟩ := Region.waitsFor_spec (hlk t ht j hj hdj)
      have : oj = o' := by rw [ho] at hoj; exact (Option.some.inj hoj).symm
      subst this
      have hlt := haft e he hb
      rw [hon] at hlt
      have hjl : j < l.length := by omega
      simp [listedN, hjl, hlt]
    · exact g4 i (by omega) h2 o' ho2
/-- The law: the first n operations are walked once, in the order of the text, in a class of worlds; whatever order they are carried out in, one frame comes of it; the others follow one behind the other. -/
theorem wp_region_walk {id : Nat} {a : Act} {w : World} {l : List Oper} (n : Nat) (hm : P.follows .mixedOrders = true) (hB : invB l.toArray n = true) (h0 : C w.drew)
    (h : wpQuiet P l.toArray C (fun full => ∀ w', C w' → wpList P l.toArray Q (l.drop n) full w') (l.take n) a) : (Code.region id l.toArray true).wp P Q a w := by
  have hB' := hB
  simp only [invB, Bool.and_eq_true, Bool.or_eq_true, decide_eq_true_eq] at hB'
  obtain ⟨⟨⟨⟨hsel, hn⟩, hsink⟩, hhead⟩, hseq⟩ := hB'
  have hn' : n ≤ l.length := by simpa using hn
  have hst : Agree l.toArray n (fun _ => undef) a (listedN l.toArray.size 0) a := by
    rw [← listedN_zero]; exact Agree.start _ _ _ _ _
  obtain ⟨vs, full, _, g2, g3, g4⟩ := quiet_steps hsel hhead hn' n 0 _ a (by omega) hst (by simpa using h)
  refine wp_region_any hm ?_
  have inv0 : HeadInv .any l.toArray n (Array.replicate l.toArray.size false) :=
    ⟨by simp, fun j oj _ hl => (by rw [getD_replicate_false] at hl; cases hl), fun t _ ht => getD_in (by simpa using ht) (getD_replicate_false _ _)⟩
  have hl0 : leftN n (Array.replicate l.toArray.size false) = n := by
    unfold leftN
    rw [List.filter_eq_self.2 (fun j _ => by rw [getD_replicate_false]; rfl), List.length_range]
  have := any_inv (P := P) (Q := Q) (Inv := C) hB g2 (fun i o hi ho => g4 i (by omega) hi o ho) g3 n _ a _ hl0 inv0 (Agree.start _ _ _ _ _) h0
  rwa [show n + (l.toArray.size - n) = l.toArray.size by omega] at this
end
theorem tch_drewN (w : World) (n : Nat) : Tch [] w (w.drewN n) := ⟨rfl, rfl, rfl, Nat.le_refl _, fun _ _ _ => rfl⟩
theorem drewN_heap {w : World} {b : Nat} {o : Obj} (h : w.heap[b]? = some o) : ∀ w', (∃ n, w' = w.drewN n) → w'.heap[b]? = some o := fun _ ⟨_, e⟩ => by subst e; exact h
theorem drewN_secs {w : World} {m : Nat} {b : Nat} {ls : List (Arr m)} (h : SecsIn w b ls) : ∀ w', (∃ n, w' = w.drewN n) → SecsIn w' b ls := fun _ ⟨k, e⟩ => by subst e; exact h.touch (tch_drewN w k) (by simp)
end Go.Cib
