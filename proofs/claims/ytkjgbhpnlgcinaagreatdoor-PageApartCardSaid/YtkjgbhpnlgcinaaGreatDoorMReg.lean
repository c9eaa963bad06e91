/-
  Small laws, for any program: a region whose order is open, in which what is read does not hang on what is made: any order comes to one frame.
-/
import Derived.StillTail
import Derived.WalkKit
namespace Go.Cib
open Go

/-- Which of the first n operations writes slot t. -/
def headOf (ops : Array Oper) (n t : Nat) : Option Nat := (List.range n).find? fun j => ((ops[j]?).bind (·.dst)) == some t

theorem headOf_some {ops : Array Oper} {n t j : Nat} (h : headOf ops n t = some j) : j < n ∧ (ops[j]?).bind (·.dst) = some t := by
  have h1 := List.find?_some h
  have h2 := List.mem_of_find?_eq_some h
  exact ⟨List.mem_range.1 h2, by simpa using h1⟩

structure Agree (ops : Array Oper) (n : Nat) (vs : Nat → Value) (a0 : Act) (listed : Array Bool) (a : Act) : Prop where
  defers : a.defers = a0.defers
  size : a.tmps.size = a0.tmps.size
  tmps : ∀ t, t < a0.tmps.size → a.tmps[t]? = some (match headOf ops n t with | some j => if listed.getD j false = true then vs j else a0.tmps.getD t undef | none => a0.tmps.getD t undef)

theorem Agree.unique {ops : Array Oper} {n : Nat} {vs : Nat → Value} {a0 a b : Act} {listed : Array Bool} (ha : Agree ops n vs a0 listed a) (hb : Agree ops n vs a0 listed b) : a = b := by
  obtain ⟨at1, ad⟩ := a
  obtain ⟨bt1, bd⟩ := b
  have h1 : at1 = bt1 := by
    apply Array.ext_getElem?
    intro t
    by_cases ht : t < a0.tmps.size
    · exact (ha.tmps t ht).trans (hb.tmps t ht).symm
    · have s1 := ha.size; have s2 := hb.size
      simp only at s1 s2
      rw [Array.getElem?_eq_none (by omega), Array.getElem?_eq_none (by omega)]
  have h2 : ad = bd := ha.defers.trans hb.defers.symm
  rw [h1, h2]

theorem Agree.start (ops : Array Oper) (n : Nat) (vs : Nat → Value) (a0 : Act) (m : Nat) : Agree ops n vs a0 (Array.replicate m false) a0 := by
  refine ⟨rfl, rfl, fun t ht => ?_⟩
  cases headOf ops n t with
  | none => simp [ht]
  | some j =>
    show a0.tmps[t]? = some (if (Array.replicate m false).getD j false = true then vs j else a0.tmps.getD t undef)
    rw [getD_replicate_false]; simp [ht]

theorem Agree.put {ops : Array Oper} {n : Nat} {vs : Nat → Value} {a0 a : Act} {listed : Array Bool} (h : Agree ops n vs a0 listed a) {i : Nat} {o : Oper} (ho : ops[i]? = some o) (hl : i < listed.size)
    (hd : ∀ d, o.dst = some d → headOf ops n d = some i) : Agree ops n vs a0 (listed.setIfInBounds i true) (a.put o.dst (vs i)) := by
  refine ⟨?_, ?_, fun t ht => ?_⟩
  · cases o.dst <;> exact h.defers
  · cases o.dst
    · exact h.size
    · simp [Act.put, h.size]
  · by_cases e : o.dst = some t
    · rw [hd t e, e]
      have : t < a.tmps.size := by rw [h.size]; exact ht
      simp [Act.put, this, hl]
    · have e1 : (a.put o.dst (vs i)).tmps[t]? = a.tmps[t]? := by
        cases hdd : o.dst with
        | none => rfl
        | some d =>
          have hne : d ≠ t := fun e' => e (by rw [hdd, e'])
          simp [Act.put, Array.getElem?_setIfInBounds_ne hne]
      rw [e1, h.tmps t ht]
      congr 1
      cases hh : headOf ops n t with
      | none => rfl
      | some j =>
        have hji : i ≠ j := by
          rintro rfl
          have := (headOf_some hh).2
          rw [ho] at this
          exact e this
        simp only
        rw [getD_set_ne false hji]

/-- One step's outcome: the value v, the invariant kept. -/
def Stp (P : Program) (Inv : World → Prop) (v : Value) : Result Next → Prop
  | .ok (.value u) w => u = v ∧ Inv w
  | .ok .skip w => v = undef ∧ Inv w
  | .ok (.enter f args) w => Calls P f args w fun e w' => e = .returned v ∧ Inv w'
  | _ => False

def StepOk (P : Program) (ops : Array Oper) (full : Act) (Inv : World → Prop) (o : Oper) (v : Value) : Prop :=
  (Region.wanted o (yielded ops full.tmps) = false ∧ v = undef) ∨
  (Region.wanted o (yielded ops full.tmps) = true ∧ ∀ w, Inv w → Stp P Inv v ((execOp full.eval o).run P w))

def putAll : Act → List Oper → List Value → Act
  | a, o :: os, v :: vs => putAll (a.put o.dst v) os vs
  | a, _, _ => a

def headB (md : Region.Mode) (ops : Array Oper) (n : Nat) : Bool :=
  (List.range n).all fun i => match ops[i]? with
    | none => false
    | some o =>
      (o.after.all fun e => !Region.binds md e || decide (e.on < i)) &&
      ((o.looksAt ops).all fun t => (List.range n).all fun j => !(((ops[j]?).bind (·.dst)) == some t) || Region.waitsFor md ops i j) &&
      (match o.dst with | none => true | some d => (List.range n).all fun j => !(((ops[j]?).bind (·.dst)) == some d) || j == i)

def listedN (m n : Nat) : Array Bool := ((List.range m).map fun j => decide (j < n)).toArray

def invB (ops : Array Oper) (n : Nat) : Bool :=
  Region.noSelect ops && decide (n ≤ ops.size) && (decide (n = ops.size) || (Region.sinkB .any ops n && Region.chainB .any ops n)) && headB .any ops n && Region.seqB .any ops (ops.size - n) n (listedN ops.size n)

section
variable {P : Program} {ops : Array Oper} {n : Nat} {Q : Exit → Act → World → Prop}

theorem headB_spec (h : headB .any ops n = true) {i : Nat} (hi : i < n) : ∃ o, ops[i]? = some o ∧ (∀ e ∈ o.after, Region.binds .any e = true → e.on < i) ∧
    (∀ t ∈ o.looksAt ops, ∀ j, j < n → (ops[j]?).bind (·.dst) = some t → Region.waitsFor .any ops i j = true) ∧ (∀ d, o.dst = some d → headOf ops n d = some i) := by
  have h1 := List.all_eq_true.1 h i (List.mem_range.2 hi)
  cases ho : ops[i]? with
  | none => simp [ho] at h1
  | some o =>
    simp only [ho, Bool.and_eq_true, Array.all_eq_true_iff_forall_mem, List.all_eq_true, List.mem_range, Bool.or_eq_true, Bool.not_eq_true', decide_eq_true_eq, beq_eq_false_iff_ne, ne_eq] at h1
    obtain ⟨⟨g1, g2⟩, g3⟩ := h1
    refine ⟨o, rfl, fun e he hb => (g1 e he).resolve_left (by simp [hb]), fun t ht j hj hd => (g2 t ht j hj).resolve_left (by simp [hd]), fun d hd => ?_⟩
    rw [hd] at g3
    simp only [List.all_eq_true, List.mem_range, Bool.or_eq_true, Bool.not_eq_true', beq_eq_false_iff_ne, ne_eq, beq_iff_eq] at g3
    have hmem : ∃ j, headOf ops n d = some j := by
      cases hh : headOf ops n d with
      | some j => exact ⟨j, rfl⟩
      | none =>
        have := List.find?_eq_none.1 hh i (List.mem_range.2 hi)
        simp [ho, hd] at this
    obtain ⟨j, hj⟩ := hmem
    have hj2 := headOf_some hj
    rcases g3 j hj2.1 with h' | h'
    · exact absurd hj2.2 h'
    · rw [hj, h']

theorem eval_eq {a b : Act} {x : Operand} (h : ∀ t, x = .tmp t → a.tmps.getD t undef = b.tmps.getD t undef) : a.eval x = b.eval x := by
  cases x with
  | tmp t => exact h t rfl
  | _ => rfl

theorem looks_operand {o : Oper} {t : Tmp} (h : (.tmp t : Operand) ∈ o.op.operands) : t ∈ o.looksAt ops := by
  unfold Oper.looksAt
  refine List.mem_append_left _ (List.mem_filterMap.2 ⟨.tmp t, by simpa using h, rfl⟩)
theorem looks_guard {o : Oper} {g : Nat} {b : Bool} {d : Tmp} (h : o.guard = some (g, b)) (hd : (ops[g]?).bind (·.dst) = some d) : d ∈ o.looksAt ops := by
  unfold Oper.looksAt
  refine List.mem_append_right _ ?_
  simp [h, hd]

theorem getD_of_get {a b : Array Value} {t : Nat} (h : a[t]? = b[t]?) : a.getD t undef = b.getD t undef := by
  simp [h]

theorem frame_looks {vs : Nat → Value} {a0 a full : Act} {listed listed' : Array Bool} (ha : Agree ops n vs a0 listed a) (hf : Agree ops n vs a0 listed' full) (hall : ∀ j, j < n → listed'.getD j false = true)
    {t : Nat} (hl : ∀ j, j < n → (ops[j]?).bind (·.dst) = some t → listed.getD j false = true) : a.tmps[t]? = full.tmps[t]? := by
  by_cases ht : t < a0.tmps.size
  · rw [ha.tmps t ht, hf.tmps t ht]
    congr 1
    cases hh : headOf ops n t with
    | none => rfl
    | some j =>
      obtain ⟨h1, h2⟩ := headOf_some hh
      simp only [hl j h1 h2, hall j h1, if_true]
  · rw [Array.getElem?_eq_none (by rw [ha.size]; omega), Array.getElem?_eq_none (by rw [hf.size]; omega)]

/-- How many of the first n are not yet listed. -/
def leftN (n : Nat) (listed : Array Bool) : Nat := ((List.range n).filter fun j => !listed.getD j false).length

theorem leftN_set {listed : Array Bool} {i : Nat} (hi : i < n) (hl : i < listed.size) (hu : listed.getD i false = false) : leftN n (listed.setIfInBounds i true) + 1 = leftN n listed := by
  unfold leftN
  have key : ∀ m, m ≤ n → ((List.range m).filter fun j => !(listed.setIfInBounds i true).getD j false).length + (if i < m then 1 else 0) = ((List.range m).filter fun j => !listed.getD j false).length := by
    intro m
    induction m with
    | zero => intro _; simp
    | succ m ih =>
      intro hm
      have ih' := ih (by omega)
      rw [List.range_succ, List.filter_append, List.filter_append, List.length_append, List.length_append]
      by_cases e : i = m
      · subst e
        have h1 : (listed.setIfInBounds i true).getD i false = true := by simp [hl]
        simp only [List.filter_cons, List.filter_nil, h1, hu, Bool.not_true, Bool.not_false, if_true, Bool.false_eq_true, if_false, List.length_cons, List.length_nil, Nat.lt_irrefl, Nat.lt_succ_self] at ih' ⊢
        omega
      · have h1 : (listed.setIfInBounds i true).getD m false = listed.getD m false := getD_set_ne false e
        have h2 : (if i < m + 1 then 1 else 0) = (if i < m then 1 else 0) := by
          by_cases h : i < m
          · rw [if_pos h, if_pos (by omega)]
          · rw [if_neg h, if_neg (by omega)]
        rw [h2]
        simp only [List.filter_cons, List.filter_nil, h1]
        omega
  have := key n (Nat.le_refl _)
  rw [if_pos hi] at this
  exact this

theorem leftN_zero {listed : Array Bool} (h : leftN n listed = 0) : ∀ j, j < n → listed.getD j false = true := by
  intro j hj
  have := List.eq_nil_of_length_eq_zero h
  have := List.filter_eq_nil_iff.1 this j (List.mem_range.2 hj)
  simpa using this
theorem leftN_pos {listed : Array Bool} (h : leftN n listed ≠ 0) : ∃ i, i < n ∧ listed.getD i false = false ∧ ∀ j, j < i → listed.getD j false = true := by
  have key : ∀ m, (∀ j, j < m → listed.getD j false = true) ∨ ∃ i, i < m ∧ listed.getD i false = false ∧ ∀ j, j < i → listed.getD j false = true := by
    intro m
    induction m with
    | zero => left; intro j hj; omega
    | succ m ih =>
      rcases ih with ih | ⟨i, h1, h2, h3⟩
      · cases hm : listed.getD m false with
        | true =>
          left; intro j hj
          rcases Nat.lt_succ_iff_lt_or_eq.1 hj with hj | rfl
          · exact ih j hj
          · exact hm
        | false => right; exact ⟨m, by omega, hm, ih⟩
      · right; exact ⟨i, by omega, h2, h3⟩
  rcases key n with hk | hk
  · exfalso; apply h
    unfold leftN
    rw [List.length_eq_zero_iff, List.filter_eq_nil_iff]
    intro j hj
    simp [hk j (List.mem_range.1 hj)]
  · exact hk

theorem listed_eq {listed : Array Bool} {m : Nat} (hs : listed.size = m) (h1 : ∀ j, j < n → listed.getD j false = true) (h2 : ∀ t, n ≤ t → t < m → listed.getD t true = false) : listed = listedN m n := by
  apply Array.ext
  · simp [listedN, hs]
  · intro j hj1 hj2
    have hjm : j < m := by omega
    have e : (listedN m n)[j] = decide (j < n) := by simp [listedN]
    rw [e]
    by_cases hjn : j < n
    · have := h1 j hjn; simp [hj1] at this; simp [this, hjn]
    · have := h2 j (by omega) hjm; simp [hj1] at this; simp [this, hjn]

theorem wpOp_step {Inv : World → Prop} {full a : Act} {w : World} {K : Act → World → Prop} {i : Nat} {o : Oper} {v : Value} (ho : ops[i]? = some o) (hs : ∀ cs b, o.op ≠ .select cs b)
    (hlook : ∀ t ∈ o.looksAt ops, a.tmps[t]? = full.tmps[t]?) (hst : StepOk P ops full Inv o v) (hw : Inv w) (hK : ∀ w', Inv w' → K (a.put o.dst v) w') : wpOp P ops Q i K a w := by
  have hev : execOp a.eval o = execOp full.eval o := execOp_congr o hs fun x hx => eval_eq fun t ht => by
    subst ht
    exact getD_of_get (hlook t (looks_operand hx))
  have hwa : Region.wanted o (yielded ops a.tmps) = Region.wanted o (yielded ops full.tmps) := by
    unfold Region.wanted
    cases hg : o.guard with
    | none => rfl
    | some gb =>
      obtain ⟨g, b⟩ := gb
      simp only [yielded]
      cases hd : (ops[g]?).bind (·.dst) with
      | none => rfl
      | some d =>
        simp only [Option.bind_some]
        rw [hlook d (looks_guard hg hd)]
  unfold wpOp
  simp only [ho]
  rw [hwa]
  rcases hst with ⟨h1, h2⟩ | ⟨h1, h2⟩
  · rw [if_neg (by simp [h1])]; subst h2; exact hK _ hw
  · rw [if_pos h1]
    left
    unfold Oper.wp
    rw [hev]
    have h3 := h2 w hw
    generalize (execOp full.eval o).run P w = r at h3
    cases r with
    | ok nx w' =>
      cases nx <;> simp only [Stp] at h3 <;> try exact h3.elim
      case value u => obtain ⟨rfl, h4⟩ := h3; exact hK _ h4
      case skip => obtain ⟨rfl, h4⟩ := h3; exact hK _ h4
      case enter f args =>
        refine Calls.mono h3 ?_
        rintro e w'' ⟨rfl, h4⟩
        exact hK _ h4
    | halt x w' => exact h3.elim

theorem any_inv {Inv : World → Prop} {vs : Nat → Value} {a0 full : Act} {l : List Oper} (hB : invB l.toArray n = true) (hf : Agree l.toArray n vs a0 (listedN l.toArray.size n) full)
    (step : ∀ i o, i < n → l[i]? = some o → StepOk P l.toArray full Inv o (vs i)) (tail : ∀ w', Inv w' → wpList P l.toArray Q (l.drop n) full w') :
    ∀ (c : Nat) (listed : Array Bool) (a : Act) (w : World), leftN n listed = c → HeadInv .any l.toArray n listed → Agree l.toArray n vs a0 listed a → Inv w →
      wpAny P .any l.toArray Q (c + (l.toArray.size - n)) listed a w := by
  simp only [invB, Bool.and_eq_true, Bool.or_eq_true, decide_eq_true_eq] at hB
  obtain ⟨⟨⟨⟨hsel, hn⟩, hsink⟩, hhead⟩, hseq⟩ := hB
  have hall : ∀ j, j < n → (listedN l.toArray.size n).getD j false = true := by
    intro j hj
    have : j < l.length := by have := hn; simp at this; omega
    simp [listedN, this, hj]
  intro c
  induction c with
  | zero =>
    intro listed a w hc inv hag hw
    have h1 := leftN_zero hc
    have he := listed_eq inv.size h1 inv.tail
    subst he
    have hau := hag.unique hf
    subst hau
    have hdl : (l.drop n).length = l.toArray.size - n := by simp
    rw [Nat.zero_add, ← hdl]
    refine wpAny_of_seq (l.drop n) n _ a w (fun j => by simp [List.getElem?_drop]) ?_ (tail w hw)
    rw [hdl]; exact hseq
  | succ c ih =>
    intro listed a w hc inv hag hw
    obtain ⟨i0, g1, g2, g3⟩ := leftN_pos (n := n) (listed := listed) (by omega)
    have hin : i0 < listed.size := by rw [inv.size]; omega
    obtain ⟨o0, ho0, hon, _, _⟩ := headB_spec hhead g1
    have hready : i0 ∈ Region.ready .any l.toArray listed := mem_ready.2 ⟨getD_in hin g2, o0, ho0, fun e he hb => g3 _ (hon e he hb)⟩
    rw [show c + 1 + (l.toArray.size - n) = (c + (l.toArray.size - n)) + 1 by omega]
    refine ⟨fun h => (by rw [h] at hready; cases hready), fun i hi => ?_⟩
    have hilt : i < n := by
      rcases Nat.lt_or_ge i n with h | h
      · exact h
      · exfalso
        obtain ⟨hil, oi, hoi, _⟩ := mem_ready.1 hi
        have hisz : i < l.toArray.size := (Array.getElem?_eq_some_iff.1 hoi).1
        rcases hsink with hsz | ⟨hs, hch⟩
        · omega
        · exact tail_waits hs hch (by omega) inv _ i0 rfl g1 (getD_in hin g2) i h hi
    obtain ⟨hil, oi, hoi, hall'⟩ := mem_ready.1 hi
    obtain ⟨o, ho, _, hlk, hdst⟩ := headB_spec hhead hilt
    have hoo : oi = o := by rw [ho] at hoi; simpa using hoi.symm
    subst hoo
    have hil2 : i < listed.size := by rw [inv.size]; exact (Array.getElem?_eq_some_iff.1 ho).1
    refine wpOp_step ho (Region.noSelect_spec hsel i oi · · ho) (fun t ht => frame_looks hag hf hall fun j hj hd => ?_) (step i oi hilt (by simpa using ho)) hw (fun w' hw' => ?_)
    · have hwf := hlk t ht j hj hd
      obtain ⟨oj, hoj, e, he, hb, hon'⟩ := Region.waitsFor_spec hwf
      have : oj = oi := by rw [ho] at hoj; simpa using hoj.symm
      subst this
      have := hall' e he hb
      rw [hon'] at this
      exact this
    · refine ih _ _ w' ?_ (inv.set hi hilt) (hag.put ho hil2 hdst) hw'
      have := leftN_set (n := n) hilt hil2 (getD_both hil)
      omega

theorem putAll_agree {vs : List Value} {a0 : Act} {l : List Oper} (hhead : headB .any l.toArray n = true) (hn : n ≤ l.length) (hv : vs.length = n) : Agree l.toArray n (fun j => vs.getD j undef) a0 (listedN l.toArray.size n) (putAll a0 (l.take n) vs) := by
  have key : ∀ (m k : Nat) (a : Act), k + m = n → Agree l.toArray n (fun j => vs.getD j undef) a0 (listedN l.toArray.size k) a → Agree l.toArray n (fun j => vs.getD j undef) a0 (listedN l.toArray.size n) (putAll a ((l.take n).drop k) (vs.drop k)) := by
    intro m
    induction m with
    | zero =>
      intro k a hk ha
      have : k = n := by omega
      subst this
      have d1 : vs.drop k = [] := List.drop_of_length_le (by rw [hv]; exact Nat.le_refl _)
      have d2 : (l.take k).drop k = [] := List.drop_of_length_le (by rw [List.length_take]; omega)
      rw [d1, d2]
      exact ha
    | succ m ih =>
      intro k a hk ha
      obtain ⟨o, ho, _, _, hd⟩ := headB_spec hhead (show k < n by omega)
      have ho' : l[k]? = some o := by simpa using ho
      have hkl : k < l.length := by omega
      have e1 : (l.take n).drop k = o :: (l.take n).drop (k + 1) := by
        rw [List.drop_eq_getElem_cons (by rw [List.length_take]; omega)]
        congr 1
        rw [List.getElem_take]
        exact (List.getElem?_eq_some_iff.1 ho').2
      have e2 : vs.drop k = vs.getD k undef :: vs.drop (k + 1) := by
        rw [List.drop_eq_getElem_cons (by omega)]
        congr 1
        rw [List.getD_eq_getElem?_getD, List.getElem?_eq_getElem (by omega)]; rfl
      rw [e1, e2]
      refine ih (k + 1) _ (by omega) ?_
      have hp := ha.put ho (by simp [listedN]; exact hkl) hd
      have e3 : (listedN l.toArray.size k).setIfInBounds k true = listedN l.toArray.size (k + 1) := by
        apply Array.ext
        · simp [listedN]
        · intro j h1 h2
          simp only [listedN, List.setIfInBounds_toArray, List.getElem_toArray, List.getElem_set, List.getElem_map, List.getElem_range]
          by_cases e : k = j
          · subst e; simp
          · rw [if_neg e]; simp; omega
      rw [e3] at hp
      exact hp
  have h0 : Agree l.toArray n (fun j => vs.getD j undef) a0 (listedN l.toArray.size 0) a0 := by
    have := Agree.start l.toArray n (fun j => vs.getD j undef) a0 l.toArray.size
    have e : Array.replicate l.toArray.size false = listedN l.toArray.size 0 := by
      apply Array.ext
      · simp [listedN]
      · intro j h1 h2; simp [listedN]
    rw [e] at this
    exact this
  simpa using key n 0 a0 (by omega) h0

def StepsOk (P : Program) (ops : Array Oper) (full : Act) (Inv : World → Prop) : List Oper → List Value → Prop
  | o :: os, v :: vs => StepOk P ops full Inv o v ∧ StepsOk P ops full Inv os vs
  | _, _ => True
theorem StepsOk.get {full : Act} {Inv : World → Prop} : ∀ {os : List Oper} {vs : List Value}, StepsOk P ops full Inv os vs → os.length = vs.length → ∀ i o, os[i]? = some o → StepOk P ops full Inv o (vs.getD i undef)
  | [], _, _, _, i, o, h => by simp at h
  | o :: os, [], _, hl, i, o', h => by simp at hl
  | o :: os, v :: vs, hs, hl, 0, o', h => by simp at h; subst h; exact hs.1
  | o :: os, v :: vs, hs, hl, i + 1, o', h => by
    simp only [List.getElem?_cons_succ] at h
    have := StepsOk.get hs.2 (by simpa using hl) i o' h
    simpa using this

theorem stepOk_value {full : Act} {Inv : World → Prop} {o : Oper} {v : Value} (hg : Region.wanted o (yielded ops full.tmps) = true) (h : ∀ w, Inv w → (execOp full.eval o).run P w = .ok (.value v) w) : StepOk P ops full Inv o v :=
  .inr ⟨hg, fun w hw => by rw [h w hw]; exact ⟨rfl, hw⟩⟩
@[go_sem] theorem Stp_enter {Inv : World → Prop} {v : Value} {f : FuncId} {args : Array Value} {w : World} : Stp P Inv v (.ok (.enter f args) w) = Calls P f args w fun e w' => e = .returned v ∧ Inv w' := rfl
@[go_sem] theorem Stp_value {Inv : World → Prop} {u v : Value} {w : World} : Stp P Inv v (.ok (.value u) w) = (u = v ∧ Inv w) := rfl
theorem stepOk_now {full : Act} {Inv : World → Prop} {o : Oper} {v : Value} (hg : Region.wanted o (yielded ops full.tmps) = true) (h : ∀ w, Inv w → Stp P Inv v ((execOp full.eval o).run P w)) : StepOk P ops full Inv o v := .inr ⟨hg, h⟩
theorem stepOk_call {full : Act} {Inv : World → Prop} {o : Oper} {v : Value} {f : FuncId} {args : Array Value} (hg : Region.wanted o (yielded ops full.tmps) = true) (he : ∀ w, (execOp full.eval o).run P w = .ok (.enter f args) w)
    (h : ∀ w, Inv w → Calls P f args w fun e w' => e = .returned v ∧ Inv w') : StepOk P ops full Inv o v :=
  .inr ⟨hg, fun w hw => by rw [he w]; exact h w hw⟩
theorem stepsOk_cons {full : Act} {Inv : World → Prop} {o : Oper} {os : List Oper} {v : Value} {vs : List Value} (h : StepOk P ops full Inv o v) (h' : StepsOk P ops full Inv os vs) : StepsOk P ops full Inv (o :: os) (v :: vs) := ⟨h, h'⟩
theorem stepsOk_nil {full : Act} {Inv : World → Prop} : StepsOk P ops full Inv [] [] := trivial

/-- The law: the first n operations, in whatever order, then the others one behind the other. -/
theorem wp_region_inv {id : Nat} {a : Act} {w : World} {l : List Oper} (n : Nat) (vs : List Value) (full : Act) (Inv : World → Prop) (hm : P.follows .mixedOrders = true) (hB : invB l.toArray n = true) (hv : vs.length = n)
    (hfull : putAll a (l.take n) vs = full) (h0 : Inv w.drew) (steps : StepsOk P l.toArray full Inv (l.take n) vs) (tail : ∀ w', Inv w' → wpList P l.toArray Q (l.drop n) full w') : (Code.region id l.toArray true).wp P Q a w := by
  have hB' := hB
  simp only [invB, Bool.and_eq_true, Bool.or_eq_true, decide_eq_true_eq] at hB'
  obtain ⟨⟨⟨⟨hsel, hn⟩, hsink⟩, hhead⟩, hseq⟩ := hB'
  have hn' : n ≤ l.length := by simpa using hn
  have hag := putAll_agree (a0 := a) (vs := vs) hhead hn' hv
  rw [hfull] at hag
  refine wp_region_any hm ?_
  have inv0 : HeadInv .any l.toArray n (Array.replicate l.toArray.size false) :=
    ⟨by simp, fun j oj _ hl => (by rw [getD_replicate_false] at hl; cases hl), fun t _ ht => getD_in (by simpa using ht) (getD_replicate_false _ _)⟩
  have hl0 : leftN n (Array.replicate l.toArray.size false) = n := by
    unfold leftN
    rw [List.filter_eq_self.2 (fun j _ => by rw [getD_replicate_false]; rfl), List.length_range]
  have := any_inv (P := P) (Q := Q) (Inv := Inv) hB hag (fun i o hi ho => StepsOk.get steps (by rw [List.length_take, hv]; omega) i o (by rw [List.getElem?_take, if_pos hi]; exact ho)) tail n _ a _ hl0 inv0 (Agree.start _ _ _ _ _) h0
  rwa [show n + (l.toArray.size - n) = l.toArray.size by omega] at this

/-! ### Where what an operation gives hangs on the order (new memory): the invariant speaks of the values, too -/
theorem Agree.congr {vs vs' : Nat → Value} {a0 a : Act} {listed : Array Bool} (h : Agree ops n vs a0 listed a) (hv : ∀ j, listed.getD j false = true → vs j = vs' j) : Agree ops n vs' a0 listed a := by
  refine ⟨h.defers, h.size, fun t ht => ?_⟩
  rw [h.tmps t ht]
  congr 1
  cases hh : headOf ops n t with
  | none => rfl
  | some j =>
    simp only
    by_cases hj : listed.getD j false = true
    · rw [if_pos hj, if_pos hj, hv j hj]
    · rw [if_neg hj, if_neg hj]

def StpR (P : Program) (K : Value → World → Prop) : Result Next → Prop
  | .ok (.value u) w => K u w
  | .ok .skip w => K undef w
  | .ok (.enter f args) w => Calls P f args w fun e w' => ∃ u, e = .returned u ∧ K u w'
  | _ => False
@[go_sem] theorem StpR_value {K : Value → World → Prop} {u : Value} {w : World} : StpR P K (.ok (.value u) w) = K u w := rfl
@[go_sem] theorem StpR_enter {K : Value → World → Prop} {f : FuncId} {args : Array Value} {w : World} : StpR P K (.ok (.enter f args) w) = Calls P f args w fun e w' => ∃ u, e = .returned u ∧ K u w' := rfl

def updV (vs : Nat → Value) (i : Nat) (u : Value) : Nat → Value := fun j => if j = i then u else vs j
def fullOf (a0 : Act) (l : List Oper) (n : Nat) (vs : Nat → Value) : Act := putAll a0 (l.take n) ((List.range n).map vs)

theorem wpOp_stepR {full a : Act} {w : World} {K : Act → World → Prop} {i : Nat} {o : Oper} {K' : Value → World → Prop} (ho : ops[i]? = some o) (hs : ∀ cs b, o.op ≠ .select cs b)
    (hlook : ∀ t ∈ o.looksAt ops, a.tmps[t]? = full.tmps[t]?)
    (hst : (Region.wanted o (yielded ops full.tmps) = true → StpR P K' ((execOp full.eval o).run P w)) ∧ (Region.wanted o (yielded ops full.tmps) = false → K' undef w))
    (hK : ∀ u w', K' u w' → K (a.put o.dst u) w') : wpOp P ops Q i K a w := by
  have hev : execOp a.eval o = execOp full.eval o := execOp_congr o hs fun x hx => eval_eq fun t ht => by
    subst ht
    exact getD_of_get (hlook t (looks_operand hx))
  have hwa : Region.wanted o (yielded ops a.tmps) = Region.wanted o (yielded ops full.tmps) := by
    unfold Region.wanted
    cases hg : o.guard with
    | none => rfl
    | some gb =>
      obtain ⟨g, b⟩ := gb
      simp only [yielded]
      cases hd : (ops[g]?).bind (·.dst) with
      | none => rfl
      | some d =>
        simp only [Option.bind_some]
        rw [hlook d (looks_guard hg hd)]
  unfold wpOp
  simp only [ho]
  rw [hwa]
  cases hwn : Region.wanted o (yielded ops full.tmps) with
  | false => rw [if_neg (by simp)]; exact hK _ _ (hst.2 hwn)
  | true =>
    rw [if_pos rfl]
    left
    unfold Oper.wp
    rw [hev]
    have h3 := hst.1 hwn
    generalize (execOp full.eval o).run P w = r at h3
    cases r with
    | ok nx w' =>
      cases nx <;> simp only [StpR] at h3 <;> try exact h3.elim
      case value u => exact hK _ _ h3
      case skip => exact hK _ _ h3
      case enter f args =>
        refine Calls.mono h3 ?_
        rintro e w'' ⟨u, rfl, h4⟩
        exact hK _ _ h4
    | halt x w' => exact h3.elim

theorem putAll_agreeF {vs : Nat → Value} {a0 : Act} {l : List Oper} (hhead : headB .any l.toArray n = true) (hn : n ≤ l.length) : Agree l.toArray n vs a0 (listedN l.toArray.size n) (fullOf a0 l n vs) := by
  have h := putAll_agree (a0 := a0) (vs := (List.range n).map vs) hhead hn (by simp)
  refine h.congr fun j hj => ?_
  have hjn : j < n := by
    by_cases hjs : j < l.length
    · simp [listedN, hjs] at hj; exact hj
    · simp [listedN, hjs] at hj
  simp [List.getD_eq_getElem?_getD, hjn]

theorem any_rel {Inv : Array Bool → (Nat → Value) → World → Prop} {a0 : Act} {l : List Oper} (hB : invB l.toArray n = true)
    (step : ∀ i o, i < n → l[i]? = some o → ∀ (listed : Array Bool) (vs : Nat → Value) (w : World), Inv listed vs w → i < listed.size → listed.getD i false = false → (∀ j, Region.waitsFor .any l.toArray i j = true → listed.getD j false = true) →
      (Region.wanted o (yielded l.toArray (fullOf a0 l n vs).tmps) = true → StpR P (fun u w' => Inv (listed.setIfInBounds i true) (updV vs i u) w') ((execOp (fullOf a0 l n vs).eval o).run P w)) ∧
      (Region.wanted o (yielded l.toArray (fullOf a0 l n vs).tmps) = false → Inv (listed.setIfInBounds i true) (updV vs i undef) w))
    (tail : ∀ vs w', Inv (listedN l.toArray.size n) vs w' → wpList P l.toArray Q (l.drop n) (fullOf a0 l n vs) w') :
    ∀ (c : Nat) (listed : Array Bool) (vs : Nat → Value) (a : Act) (w : World), leftN n listed = c → HeadInv .any l.toArray n listed → Agree l.toArray n vs a0 listed a → Inv listed vs w →
      wpAny P .any l.toArray Q (c + (l.toArray.size - n)) listed a w := by
  simp only [invB, Bool.and_eq_true, Bool.or_eq_true, decide_eq_true_eq] at hB
  obtain ⟨⟨⟨⟨hsel, hn⟩, hsink⟩, hhead⟩, hseq⟩ := hB
  have hn' : n ≤ l.length := by simpa using hn
  have hall : ∀ j, j < n → (listedN l.toArray.size n).getD j false = true := by
    intro j hj
    have : j < l.length := by omega
    simp [listedN, this, hj]
  intro c
  induction c with
  | zero =>
    intro listed vs a w hc inv hag hw
    have h1 := leftN_zero hc
    have he := listed_eq inv.size h1 inv.tail
    subst he
    have hau := hag.unique (putAll_agreeF hhead hn')
    subst hau
    have hdl : (l.drop n).length = l.toArray.size - n := by simp
    rw [Nat.zero_add, ← hdl]
    refine wpAny_of_seq (l.drop n) n _ _ w (fun j => by simp [List.getElem?_drop]) ?_ (tail vs w hw)
    rw [hdl]; exact hseq
  | succ c ih =>
    intro listed vs a w hc inv hag hw
    obtain ⟨i0, g1, g2, g3⟩ := leftN_pos (n := n) (listed := listed) (by omega)
    have hin : i0 < listed.size := by rw [inv.size]; omega
    obtain ⟨o0, ho0, hon, _, _⟩ := headB_spec hhead g1
    have hready : i0 ∈ Region.ready .any l.toArray listed := mem_ready.2 ⟨getD_in hin g2, o0, ho0, fun e he hb => g3 _ (hon e he hb)⟩
    rw [show c + 1 + (l.toArray.size - n) = (c + (l.toArray.size - n)) + 1 by omega]
    refine ⟨fun h => (by rw [h] at hready; cases hready), fun i hi => ?_⟩
    have hilt : i < n := by
      rcases Nat.lt_or_ge i n with h | h
      · exact h
      · exfalso
        obtain ⟨hil, oi, hoi, _⟩ := mem_ready.1 hi
        have hisz : i < l.toArray.size := (Array.getElem?_eq_some_iff.1 hoi).1
        rcases hsink with hsz | ⟨hs, hch⟩
        · omega
        · exact tail_waits hs hch (by omega) inv _ i0 rfl g1 (getD_in hin g2) i h hi
    obtain ⟨hil, oi, hoi, hall'⟩ := mem_ready.1 hi
    obtain ⟨o, ho, _, hlk, hdst⟩ := headB_spec hhead hilt
    have hoo : oi = o := by rw [ho] at hoi; simpa using hoi.symm
    subst hoo
    have hil2 : i < listed.size := by rw [inv.size]; exact (Array.getElem?_eq_some_iff.1 ho).1
    have hwf : ∀ j, Region.waitsFor .any l.toArray i j = true → listed.getD j false = true := by
      intro j hj
      obtain ⟨oj, hoj, e, he, hb, hon'⟩ := Region.waitsFor_spec hj
      have : oj = oi := by rw [ho] at hoj; simpa using hoj.symm
      subst this
      have := hall' e he hb
      rw [hon'] at this
      exact this
    refine wpOp_stepR ho (Region.noSelect_spec hsel i oi · · ho) (fun t ht => frame_looks hag (putAll_agreeF hhead hn') hall fun j hj hd => hwf j (hlk t ht j hj hd)) (step i oi hilt (by simpa using ho) listed vs w hw hil2 (getD_both hil) hwf) (fun u w' hw' => ?_)
    have hag2 : Agree l.toArray n (updV vs i u) a0 listed a := hag.congr fun j hj => by
      have : j ≠ i := by rintro rfl; rw [getD_both hil] at hj; cases hj
      simp [updV, this]
    have hp := hag2.put ho hil2 hdst
    rw [show updV vs i u i = u by simp [updV]] at hp
    refine ih _ _ _ w' ?_ (inv.set hi hilt) hp hw'
    have := leftN_set (n := n) hilt hil2 (getD_both hil)
    omega

/-- The law: the first n operations in whatever order, their values as the invariant says; then the others. -/
theorem wp_region_rel {id : Nat} {a : Act} {w : World} {l : List Oper} (n : Nat) (Inv : Array Bool → (Nat → Value) → World → Prop) (hm : P.follows .mixedOrders = true) (hB : invB l.toArray n = true)
    (h0 : ∀ vs, Inv (Array.replicate l.toArray.size false) vs w.drew)
    (step : ∀ i o, i < n → l[i]? = some o → ∀ (listed : Array Bool) (vs : Nat → Value) (w : World), Inv listed vs w → i < listed.size → listed.getD i false = false → (∀ j, Region.waitsFor .any l.toArray i j = true → listed.getD j false = true) →
      (Region.wanted o (yielded l.toArray (fullOf a l n vs).tmps) = true → StpR P (fun u w' => Inv (listed.setIfInBounds i true) (updV vs i u) w') ((execOp (fullOf a l n vs).eval o).run P w)) ∧
      (Region.wanted o (yielded l.toArray (fullOf a l n vs).tmps) = false → Inv (listed.setIfInBounds i true) (updV vs i undef) w))
    (tail : ∀ vs w', Inv (listedN l.toArray.size n) vs w' → wpList P l.toArray Q (l.drop n) (fullOf a l n vs) w') : (Code.region id l.toArray true).wp P Q a w := by
  have hB' := hB
  simp only [invB, Bool.and_eq_true, Bool.or_eq_true, decide_eq_true_eq] at hB'
  obtain ⟨⟨⟨⟨hsel, hn⟩, hsink⟩, hhead⟩, hseq⟩ := hB'
  refine wp_region_any hm ?_
  have inv0 : HeadInv .any l.toArray n (Array.replicate l.toArray.size false) :=
    ⟨by simp, fun j oj _ hl => (by rw [getD_replicate_false] at hl; cases hl), fun t _ ht => getD_in (by simpa using ht) (getD_replicate_false _ _)⟩
  have hl0 : leftN n (Array.replicate l.toArray.size false) = n := by
    unfold leftN
    rw [List.filter_eq_self.2 (fun j _ => by rw [getD_replicate_false]; rfl), List.length_range]
  have := any_rel (P := P) (Q := Q) (Inv := Inv) hB step tail n _ (fun _ => undef) a _ hl0 inv0 (Agree.start _ _ _ _ _) (h0 _)
  rwa [show n + (l.toArray.size - n) = l.toArray.size by omega] at this
end
end Go.Cib
