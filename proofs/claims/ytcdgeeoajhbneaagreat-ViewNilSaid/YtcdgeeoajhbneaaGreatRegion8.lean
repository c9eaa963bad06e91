/-
  Small laws, for any program: a region whose order is open, up to one call for which all before it is done: what is ahead of it is walked once, the call turns the world, the rest follows.
-/
import Derived.Test.YtcdgeeoajhbneaaGreatRegion7
namespace Go.Cib
open Go Go.RowKit
section
variable {P : Program} {Q : Exit → Act → World → Prop} {l : List Oper}
theorem looks_same {ops : Array Oper} {a full : Act} {o : Oper} (hs : ∀ cs b, o.op ≠ .select cs b) (hlook : ∀ t ∈ o.looksAt ops, a.tmps[t]? = full.tmps[t]?) :
    execOp a.eval o = execOp full.eval o ∧ Region.wanted o (yielded ops a.tmps) = Region.wanted o (yielded ops full.tmps) := by
  refine ⟨execOp_congr o hs fun x hx => eval_eq fun t ht => by
    subst ht
    exact getD_of_get (hlook t (looks_operand hx)), ?_⟩
  unfold Region.wanted
  cases hg : o.guard with
  | none => rfl
  | some gb =>
    obtain ⟨g, b⟩ := gb
    simp only [yielded]
    cases hd : (ops[g]?).bind (·.dst) with
    | none => rfl
    | some d =>
      simp only [Option.bind_some]
      rw [hlook d (looks_guard hg hd)]
theorem headB_less {ops : Array Oper} {c n : Nat} (h : headB .any ops n = true) (hc : c ≤ n) : headB .any ops c = true := by
  unfold headB at h ⊢
  rw [List.all_eq_true] at h ⊢
  intro i hi
  have hi' := List.mem_range.1 hi
  have h1 := h i (List.mem_range.2 (by omega))
  cases ho : ops[i]? with
  | none => simp [ho] at h1
  | some o =>
    simp only [ho, Bool.and_eq_true] at h1 ⊢
    obtain ⟨⟨g1, g2⟩, g3⟩ := h1
    refine ⟨⟨g1, ?_⟩, ?_⟩
    · rw [List.all_eq_true] at g2 ⊢
      intro t ht
      have := g2 t ht
      rw [List.all_eq_true] at this ⊢
      intro j hj
      exact this j (List.mem_range.2 (by have := List.mem_range.1 hj; omega))
    · cases hd : o.dst with
      | none => rfl
      | some d =>
        rw [hd] at g3
        simp only at g3 ⊢
        rw [List.all_eq_true] at g3 ⊢
        intro j hj
        exact g3 j (List.mem_range.2 (by have := List.mem_range.1 hj; omega))
theorem StpR.of_stp {K : World → Prop} {v : Value} {K' : Value → World → Prop} {r : Result Next} (h : Stp P K v r) (hk : ∀ w, K w → K' v w) : StpR P K' r := by
  cases r with
  | ok nx w =>
    cases nx <;> simp only [Stp, StpR] at h ⊢ <;> try exact h.elim
    case value u => obtain ⟨rfl, h⟩ := h; exact hk _ h
    case skip => obtain ⟨rfl, h⟩ := h; exact hk _ h
    case enter f args => exact Calls.mono h fun e w' ⟨he, hw⟩ => ⟨v, he, hk _ hw⟩
  | halt x w => exact h.elim
/-- The law. -/
theorem rest_gate {id : Nat} {a : Act} {w : World} (c : Nat) (C : World → Prop) (K : Value → World → Prop) (hm : P.follows .mixedOrders = true) (hG : gateB l.toArray (c + 1) = true) (h0 : C w.drew)
    (h : wpQuiet P l.toArray C (fun full => ∃ o, l[c]? = some o ∧ Region.wanted o (yielded l.toArray full.tmps) = true ∧ (∀ w', C w' → StpR P K ((execOp full.eval o).run P w')) ∧ ∀ u w', K u w' → RestAt P Q l (c + 1) (full.put o.dst u) w') (l.take c) a) :
    (Code.region id l.toArray true).wp P Q a w := by
  have hG' := hG
  simp only [gateB, Bool.and_eq_true, decide_eq_true_eq] at hG'
  obtain ⟨⟨⟨⟨hsel, hn⟩, hsink⟩, _⟩, hhead⟩ := hG'
  have hn' : c + 1 ≤ l.length := by have := hn.2; simpa using this
  have hheadc := headB_less (c := c) hhead (by omega)
  have hst : Agree l.toArray c (fun _ => undef) a (listedN l.toArray.size 0) a := by
    rw [← listedN_zero]; exact Agree.start _ _ _ _ _
  obtain ⟨v0, full, _, g2, ⟨oc, hoc, hwc, hcall, hrest⟩, g4⟩ := quiet_steps hsel hheadc (show c ≤ l.length by omega) c 0 _ a (by omega) hst (by simpa using h)
  refine wp_region_any hm ?_
  have inv0 : HeadInv .any l.toArray (c + 1) (Array.replicate l.toArray.size false) :=
    ⟨by simp, fun j oj _ hl => (by rw [getD_replicate_false] at hl; cases hl), fun t _ ht => getD_in (by simpa using ht) (getD_replicate_false _ _)⟩
  have hl0 : leftN (c + 1) (Array.replicate l.toArray.size false) = c + 1 := by
    unfold leftN
    rw [List.filter_eq_self.2 (fun j _ => by rw [getD_replicate_false]; rfl), List.length_range]
  -- what holds on the way
  let Inv : Array Bool → (Nat → Value) → World → Prop := fun listed vs w =>
    (∀ j i, listed.getD j false = true → Region.waitsFor .any l.toArray j i = true → listed.getD i false = true) ∧ (∀ j, j < c → listed.getD j false = true → vs j = v0 j) ∧
      (listed.getD c false = false → C w) ∧ (listed.getD c false = true → K (vs c) w)
  have hallc : ∀ listed : Array Bool, (∀ j i, listed.getD j false = true → Region.waitsFor .any l.toArray j i = true → listed.getD i false = true) → (∀ i, Region.waitsFor .any l.toArray c i = true → listed.getD i false = true) → ∀ i, i < c → listed.getD i false = true := by
    intro listed hcl hcw
    have key : ∀ d i, c - i = d → i < c → listed.getD i false = true := by
      intro d
      induction d using Nat.strongRecOn with
      | _ d ih =>
        intro i hd hi
        have h1 := List.all_eq_true.1 hsink i (List.mem_range.2 (by omega))
        obtain ⟨j, hj, hj2⟩ := List.any_eq_true.1 h1
        simp only [Bool.and_eq_true, decide_eq_true_eq] at hj2
        have hjn := List.mem_range.1 hj
        by_cases hjc : j = c
        · subst hjc; exact hcw i hj2.2
        · exact hcl j i (ih (c - j) (by omega) j rfl (by omega)) hj2.2
    exact fun i hi => key _ i rfl hi
  have hsame : ∀ (vs : Nat → Value) (listed : Array Bool) i o, i ≤ c → l[i]? = some o → (∀ j, j < c → listed.getD j false = true → vs j = v0 j) → (∀ j, Region.waitsFor .any l.toArray i j = true → listed.getD j false = true) →
      execOp (fullOf a l (c + 1) vs).eval o = execOp full.eval o ∧ Region.wanted o (yielded l.toArray (fullOf a l (c + 1) vs).tmps) = Region.wanted o (yielded l.toArray full.tmps) := by
    intro vs listed i o hi ho hv hw
    have hag := putAll_agreeF (a0 := a) (vs := vs) hhead hn'
    obtain ⟨o', ho', haft, hlk, _⟩ := headB_spec hhead (show i < c + 1 by omega)
    have : o' = o := by have h1 : l.toArray[i]? = some o := by simpa using ho
                        rw [h1] at ho'; exact (Option.some.inj ho').symm
    subst this
    refine looks_same (Region.noSelect_spec hsel i o' · · ho') fun t ht => ?_
    by_cases hts : t < a.tmps.size
    · rw [hag.tmps t hts, g2.tmps t hts]
      congr 1
      obtain ⟨m1, m2⟩ := headOf_more (ops := l.toArray) (t := t) (n1 := c) (n := c + 1) (by omega)
      cases hh : headOf l.toArray c t with
      | some j =>
        rw [m1 j hh]
        simp only
        have hjc := (headOf_some hh).1
        have hjl : j < l.length := by omega
        have e1 : (listedN l.toArray.size (c + 1)).getD j false = true := by simp [listedN, hjl]; omega
        have e2 : (listedN l.toArray.size c).getD j false = true := by simp [listedN, hjl, hjc]
        rw [e1, e2]
        simp only [if_true]
        exact hv j hjc (hw j (hlk t ht j (by omega) (headOf_some hh).2))
      | none =>
        cases hh2 : headOf l.toArray (c + 1) t with
        | none => rfl
        | some j =>
          exfalso
          have hj := headOf_some hh2
          have hjc : c ≤ j := m2 hh j hh2
          have hwj := hlk t ht j hj.1 hj.2
          obtain ⟨oj, hoj, e, he, hb, hon⟩ := Region.waitsFor_spec hwj
          have : oj = o' := by rw [ho'] at hoj; exact (Option.some.inj hoj).symm
          subst this
          have hlt := haft e he hb
          rw [hon] at hlt
          omega
    · rw [Array.getElem?_eq_none (by rw [hag.size]; exact Nat.le_of_not_lt hts), Array.getElem?_eq_none (by rw [g2.size]; exact Nat.le_of_not_lt hts)]
  have := any_rel_gate (P := P) (Q := Q) (Inv := Inv) (a0 := a) hG ?_ ?_ (c + 1) _ (fun _ => undef) a _ hl0 inv0 (Agree.start _ _ _ _ _) ⟨fun j i hl => (by rw [getD_replicate_false] at hl; cases hl), fun j _ hl => (by rw [getD_replicate_false] at hl; cases hl), fun _ => h0, fun hl => (by rw [getD_replicate_false] at hl; cases hl)⟩
  · rwa [show c + 1 + (l.toArray.size - (c + 1)) = l.toArray.size by omega] at this
  · rintro i o hi ho listed vs w' ⟨hcl, hv, hC, hK⟩ hsz hun hw
    obtain ⟨e1, e2⟩ := hsame vs listed i o (by omega) ho hv hw
    rw [e1, e2]
    have hclosed : ∀ j k, (listed.setIfInBounds i true).getD j false = true → Region.waitsFor .any l.toArray j k = true → (listed.setIfInBounds i true).getD k false = true := by
      intro j k hj hjk
      have hk : listed.getD k false = true := by
        by_cases e : j = i
        · subst e; exact hw k hjk
        · rw [getD_set_ne false (Ne.symm e)] at hj; exact hcl j k hj hjk
      by_cases e : k = i
      · subst e; exact listed_set_eq hsz
      · rw [getD_set_ne false (Ne.symm e)]; exact hk
    by_cases hic : i = c
    · subst hic
      have hol : o = oc := by rw [hoc] at ho; exact (Option.some.inj ho).symm
      subst hol
      have hCw := hC hun
      refine ⟨fun _ => (hcall w' hCw).mono fun u w'' hu => ⟨hclosed, fun j hj hl => ?_, fun hl => ?_, fun _ => ?_⟩, fun hf => by rw [hwc] at hf; cases hf⟩
      · unfold updV
        rw [if_neg (by omega)]
        rw [getD_set_ne false (by omega)] at hl
        exact hv j hj hl
      · rw [listed_set_eq hsz] at hl; cases hl
      · unfold updV; rw [if_pos rfl]; exact hu
    · have hic' : i < c := by omega
      have hcun : listed.getD c false = false := by
        cases hl : listed.getD c false with
        | false => rfl
        | true =>
          have := hallc listed hcl (fun k hk => hcl c k hl hk) i hic'
          rw [this] at hun; cases hun
      have hs := g4 i (by omega) hic' o ho
      have keep : ∀ u, u = v0 i → ∀ w'', C w'' → Inv (listed.setIfInBounds i true) (updV vs i u) w'' := by
        intro u hu w'' hw''
        refine ⟨hclosed, fun j hj hl => ?_, fun _ => hw'', fun hl => ?_⟩
        · unfold updV
          by_cases e : j = i
          · rw [if_pos e, e]; exact hu
          · rw [if_neg e]; rw [getD_set_ne false (Ne.symm e)] at hl; exact hv j hj hl
        · rw [getD_set_ne false (by omega), hcun] at hl; cases hl
      rcases hs with ⟨h1, h2⟩ | ⟨h1, h2⟩
      · exact ⟨fun hf => (by rw [h1] at hf; cases hf), fun _ => keep _ h2.symm _ (hC hcun)⟩
      · exact ⟨fun _ => StpR.of_stp (h2 w' (hC hcun)) fun w'' hw'' => keep _ rfl _ hw'', fun hf => (by rw [h1] at hf; cases hf)⟩
  · rintro vs w' hinv ⟨hcl, hv, hC, hK⟩
    have hcl' : (listedN l.toArray.size (c + 1)).getD c false = true := by
      have : c < l.length := by omega
      simp [listedN, this]
    have hKc := hK hcl'
    have hfull : fullOf a l (c + 1) vs = full.put oc.dst (vs c) := by
      have hag := putAll_agreeF (a0 := a) (vs := vs) hhead hn'
      have hag2 : Agree l.toArray (c + 1) vs a (listedN l.toArray.size (c + 1)) (full.put oc.dst (vs c)) := by
        have hA : Agree l.toArray (c + 1) vs a (listedN l.toArray.size c) full := by
          refine ⟨g2.defers, g2.size, fun t ht => ?_⟩
          rw [g2.tmps t ht]
          congr 1
          obtain ⟨m1, m2⟩ := headOf_more (ops := l.toArray) (t := t) (n1 := c) (n := c + 1) (by omega)
          cases hh : headOf l.toArray c t with
          | some j =>
            rw [m1 j hh]
            simp only
            have hjc := (headOf_some hh).1
            have hjl : j < l.length := by omega
            have e2 : (listedN l.toArray.size c).getD j false = true := by simp [listedN, hjl, hjc]
            have e1 : (listedN l.toArray.size (c + 1)).getD j false = true := by simp [listedN, hjl]; omega
            rw [e2]
            simp only [if_true]
            exact (hv j hjc e1).symm
          | none =>
            cases hh2 : headOf l.toArray (c + 1) t with
            | none => rfl
            | some j =>
              simp only
              have hj := m2 hh j hh2
              have hjl : j < l.length := by have := (headOf_some hh2).1; omega
              rw [if_neg]
              simp [listedN, hjl]
              omega
        obtain ⟨o', ho', _, _, hdst⟩ := headB_spec hhead (show c < c + 1 by omega)
        have : o' = oc := by have h1 : l.toArray[c]? = some oc := by simpa using hoc
                             rw [h1] at ho'; exact (Option.some.inj ho').symm
        subst this
        have hp := hA.put ho' (by simp [listedN]; omega) hdst
        rwa [listedN_succ] at hp
      exact hag.unique hag2
    rw [hfull]
    exact hrest _ _ hKc
theorem any_inv_rest {n : Nat} (n1 : Nat) {Inv : World → Prop} {vs : Nat → Value} {a0 full : Act} {l : List Oper} (hB : openB l.toArray n = true) (hf : Agree l.toArray n vs a0 (listedN l.toArray.size n) full)
    (step : ∀ i o, n1 ≤ i → i < n → l[i]? = some o → StepOk P l.toArray full Inv o (vs i)) (tail : ∀ w', Inv w' → RestAt P Q l n full w') :
    ∀ (c : Nat) (listed : Array Bool) (a : Act) (w : World), leftN n listed = c → (∀ j, j < n1 → listed.getD j false = true) → HeadInv .any l.toArray n listed → Agree l.toArray n vs a0 listed a → Inv w →
      wpAny P .any l.toArray Q (c + (l.toArray.size - n)) listed a w := by
  simp only [openB, Bool.and_eq_true, Bool.or_eq_true, decide_eq_true_eq] at hB
  obtain ⟨⟨⟨hsel, hn⟩, hsink⟩, hhead⟩ := hB
  have hall : ∀ j, j < n → (listedN l.toArray.size n).getD j false = true := by
    intro j hj
    have : j < l.length := by have := hn; simp at this; omega
    simp [listedN, this, hj]
  intro c
  induction c with
  | zero =>
    intro listed a w hc hd1 inv hag hw
    have h1 := leftN_zero hc
    have he := listed_eq inv.size h1 inv.tail
    subst he
    have hau := hag.unique hf
    subst hau
    rw [Nat.zero_add]
    exact tail w hw
  | succ c ih =>
    intro listed a w hc hd1 inv hag hw
    obtain ⟨i0, g1, g2, g3⟩ := leftN_pos (n := n) (listed := listed) (by omega)
    have hin : i0 < listed.size := by rw [inv.size]; omega
    obtain ⟨o0, ho0, hon, _, _⟩ := headB_spec hhead g1
    have hready : i0 ∈ Region.ready .any l.toArray listed := mem_ready.2 ⟨getD_in hin g2, o0, ho0, fun e he hb => g3 _ (hon e he hb)⟩
    rw [show c + 1 + (l.toArray.size - n) = (c + (l.toArray.size - n)) + 1 by omega]
    refine ⟨fun h => (by rw [h] at hready; cases hready), fun i hi => ?_⟩
    have hilt : i < n := by
      rcases Nat.lt_or_ge i n with h | h
      · exact h
      · exfalso
        obtain ⟨hil, oi, hoi, _⟩ := mem_ready.1 hi
        have hisz : i < l.toArray.size := (Array.getElem?_eq_some_iff.1 hoi).1
        rcases hsink with hsz | ⟨hs, hch⟩
        · omega
        · exact tail_waits hs hch (by omega) inv _ i0 rfl g1 (getD_in hin g2) i h hi
    obtain ⟨hil, oi, hoi, hall'⟩ := mem_ready.1 hi
    have hge : n1 ≤ i := by
      rcases Nat.lt_or_ge i n1 with h | h
      · have := hd1 i h; rw [getD_both hil] at this; cases this
      · exact h
    obtain ⟨o, ho, _, hlk, hdst⟩ := headB_spec hhead hilt
    have hoo : oi = o := by rw [ho] at hoi; simpa using hoi.symm
    subst hoo
    have hil2 : i < listed.size := by rw [inv.size]; exact (Array.getElem?_eq_some_iff.1 ho).1
    refine wpOp_step ho (Region.noSelect_spec hsel i oi · · ho) (fun t ht => frame_looks hag hf hall fun j hj hd => ?_) (step i oi hge hilt (by simpa using ho)) hw (fun w' hw' => ?_)
    · have hwf := hlk t ht j hj hd
      obtain ⟨oj, hoj, e, he, hb, hon'⟩ := Region.waitsFor_spec hwf
      have : oj = oi := by rw [ho] at hoj; simpa using hoj.symm
      subst this
      have := hall' e he hb
      rw [hon'] at this
      exact this
    · refine ih _ _ w' ?_ (fun j hj => (getD_set_ne false (show i ≠ j by omega)).trans (hd1 j hj)) (inv.set hi hilt) (hag.put ho hil2 hdst) hw'
      have := leftN_set (n := n) hilt hil2 (getD_both hil)
      omega



/-- Operations whose order is open, walked once in the text's order in a class of worlds. -/
theorem rest_quiet {n m : Nat} {a : Act} {w : World} (C : World → Prop) (hnm : n ≤ m) (hB : openB l.toArray m = true) (h0 : C w)
    (h : wpQuiet P l.toArray C (fun full => ∀ w', C w' → RestAt P Q l m full w') ((l.take m).drop n) a) : RestAt P Q l n a w := by
  have hB' := hB
  simp only [openB, Bool.and_eq_true, Bool.or_eq_true, decide_eq_true_eq] at hB'
  obtain ⟨⟨⟨hsel, hm⟩, hsink⟩, hhead⟩ := hB'
  have hm' : m ≤ l.length := by simpa using hm
  have hag0 : Agree l.toArray m (ownOf a l) a (listedN l.toArray.size n) a := by
    refine ⟨rfl, rfl, fun t ht => ?_⟩
    have e : a.tmps[t]? = some (a.tmps.getD t undef) := by simp [ht]
    cases hh : headOf l.toArray m t with
    | none => exact e
    | some j =>
      have hd := (headOf_some hh).2
      have hd' : (l[j]?).bind (·.dst) = some t := by simpa using hd
      show a.tmps[t]? = some (if _ then ownOf a l j else _)
      unfold ownOf
      rw [hd']
      simp only [ite_self]
      exact e
  have hleft : leftN m (listedN l.toArray.size n) = m - n := by
    unfold leftN
    obtain ⟨k, rfl⟩ := Nat.exists_eq_add_of_le hnm
    rw [List.range_add, List.filter_append, List.length_append]
    rw [List.filter_eq_nil_iff.2 (fun j hj => by
      have hj' := List.mem_range.1 hj
      have : j < l.length := by omega
      simp [listedN, this, hj'])]
    rw [List.filter_eq_self.2 (fun j hj => by
      obtain ⟨x, hx, rfl⟩ := List.mem_map.1 hj
      have hx' := List.mem_range.1 hx
      have : n + x < l.length := by omega
      simp [listedN, this])]
    simp
  obtain ⟨vs, full, g1, g2, g3, g4⟩ := quiet_steps hsel hhead hm' (m - n) n _ a (by omega) hag0 h
  have hag1 : Agree l.toArray m vs a (listedN l.toArray.size n) a := hag0.congr fun j hj => (g1 j (by
    by_cases hjs : j < l.length
    · simp [listedN, hjs] at hj; exact hj
    · simp [listedN, hjs] at hj)).symm
  have := any_inv_rest (P := P) (Q := Q) n hB g2 (fun i o h1 h2 ho => g4 i h1 h2 o ho) g3 (m - n) _ a w hleft (fun j hj => by
    have : j < l.length := by omega
    simp [listedN, this, hj]) (headInv_from hhead hnm) hag1 h0
  unfold RestAt
  rwa [show m - n + (l.toArray.size - m) = l.toArray.size - n by omega] at this
end
end Go.Cib
