/-
  Small laws, for any program: a region whose order is open, in parts one behind the other: what is left of it from an operation on; parts that are forced, parts whose order is open.
-/
import Derived.Test.YtcdgeeoajhbneaaGreatRegion6
namespace Go.Cib
open Go Go.RowKit

/-- What is left of a region whose first n operations are done. -/
def RestAt (P : Program) (Q : Exit → Act → World → Prop) (l : List Oper) (n : Nat) (a : Act) (w : World) : Prop := wpAny P .any l.toArray Q (l.toArray.size - n) (listedN l.toArray.size n) a w
/-- From k on, g operations that are forced one behind the other. -/
def seqP (ops : Array Oper) : Nat → Nat → Array Bool → Bool
  | 0, _, _ => true
  | g + 1, k, listed => decide (Region.ready .any ops listed = [k]) && seqP ops g (k + 1) (listed.setIfInBounds k true)
def forcedB (ops : Array Oper) (n m : Nat) : Bool := decide (n ≤ m ∧ m ≤ ops.size) && seqP ops (m - n) n (listedN ops.size n)
def openB (ops : Array Oper) (n : Nat) : Bool := Region.noSelect ops && decide (n ≤ ops.size) && (decide (n = ops.size) || (Region.sinkB .any ops n && Region.chainB .any ops n)) && headB .any ops n
/-- A run that ends as it should, in X. -/
def endsIn (X : Act → World → Prop) : Exit → Act → World → Prop
  | .normal, a, w => X a w
  | _, _, _ => False
theorem letsOut_endsIn {X : Act → World → Prop} (h : LetsOut (endsIn X)) : False := by
  obtain ⟨a, w, h⟩ := h; exact h
theorem yielded_of {ops : Array Oper} {fu : Act} {g t : Nat} {b : Bool} (hd : (ops[g]?).bind (·.dst) = some t) (hv : fu.eval (.tmp t) = .bool b) : yielded ops fu.tmps g = some b := by
  have hv' : fu.tmps.getD t undef = .bool b := hv
  rw [Array.getD_eq_getD_getElem?] at hv'
  unfold yielded
  rw [hd]
  simp only [Option.bind_some]
  cases ht : fu.tmps[t]? with
  | none => rw [ht] at hv'; cases hv'
  | some v =>
    rw [ht] at hv'
    simp only [Option.getD_some] at hv'
    subst hv'
    rfl
/-- A step under a guard that lets it by; under one that does not. -/
theorem guard_by {o : Oper} {ops : Array Oper} {fu : Act} {g t : Nat} {b : Bool} {A C : Prop} (hg : o.guard = some (g, b)) (hd : (ops[g]?).bind (·.dst) = some t) (hv : fu.eval (.tmp t) = .bool b) (h : A) :
    (Region.wanted o (yielded ops fu.tmps) = true → A) ∧ (Region.wanted o (yielded ops fu.tmps) = false → C) := by
  have hw : Region.wanted o (yielded ops fu.tmps) = true := by
    unfold Region.wanted
    rw [hg]
    simp only [yielded_of hd hv, beq_self_eq_true]
  exact ⟨fun _ => h, fun hc => (by rw [hw] at hc; cases hc)⟩
theorem guard_past {o : Oper} {ops : Array Oper} {fu : Act} {g t : Nat} {b : Bool} {A C : Prop} (hg : o.guard = some (g, !b)) (hd : (ops[g]?).bind (·.dst) = some t) (hv : fu.eval (.tmp t) = .bool b) (h : C) :
    (Region.wanted o (yielded ops fu.tmps) = true → A) ∧ (Region.wanted o (yielded ops fu.tmps) = false → C) := by
  have hw : Region.wanted o (yielded ops fu.tmps) = false := by
    unfold Region.wanted
    rw [hg]
    simp only [yielded_of hd hv]
    cases b <;> rfl
  exact ⟨fun hc => (by rw [hw] at hc; cases hc), fun _ => h⟩
section
variable {P : Program} {Q : Exit → Act → World → Prop} {l : List Oper}
theorem upon_endsIn {o : Oper} {a : Act} {next : Act → World → Prop} {X : Act → World → Prop} {r : Result Next} (h : o.upon P a next (endsIn X) r) : o.upon P a next Q r := by
  cases r with
  | ok nx w =>
    cases nx with
    | enter f args =>
      rw [Oper.upon_enter] at h ⊢
      refine h.mono fun e w' h' => ?_
      cases e with
      | returned v => exact h'
      | panicked c => exact h'.elim
      | outgrown => exact (letsOut_endsIn h').elim
    | row r args => exact h
    | value v => exact h
    | skip => exact h
    | defer d => exact h
    | _ => exact h
  | halt x w =>
    cases x with
    | panic v => rw [Oper.upon_panic] at h; exact h.elim
    | _ => exact h
theorem wpOp_of_list {i : Nat} {o : Oper} {rest : List Oper} {a : Act} {w : World} {X : Act → World → Prop} {K : Act → World → Prop} (ho : l.toArray[i]? = some o) (h : wpList P l.toArray (endsIn X) (o :: rest) a w)
    (hK : ∀ a w, wpList P l.toArray (endsIn X) rest a w → K a w) : wpOp P l.toArray Q i K a w := by
  unfold wpOp
  simp only [ho]
  unfold wpList at h
  split at h
  · rename_i hw
    rw [if_pos hw]
    rcases h with h | ⟨_, h⟩
    · exact .inl (Oper.wp_mono hK (upon_endsIn h))
    · exact (letsOut_endsIn h).elim
  · rename_i hw
    rw [if_neg hw]
    exact hK _ _ h
/-- The region's start. -/
theorem rest_start {id : Nat} {a : Act} {w : World} (hm : P.follows .mixedOrders = true) (h : RestAt P Q l 0 a w.drew) : (Code.region id l.toArray true).wp P Q a w := by
  refine wp_region_any hm ?_
  unfold RestAt at h
  rw [← listedN_zero] at h
  exact h
/-- Operations that are forced one behind the other. -/
theorem rest_forced {n m : Nat} {a : Act} {w : World} (hB : forcedB l.toArray n m = true) (h : wpList P l.toArray (endsIn (RestAt P Q l m)) ((l.take m).drop n) a w) : RestAt P Q l n a w := by
  simp only [forcedB, Bool.and_eq_true, decide_eq_true_eq] at hB
  obtain ⟨⟨h1, h2⟩, hs⟩ := hB
  have key : ∀ (d n : Nat) (a : Act) (w : World), n + d = m → seqP l.toArray d n (listedN l.toArray.size n) = true → wpList P l.toArray (endsIn (RestAt P Q l m)) ((l.take m).drop n) a w → RestAt P Q l n a w := by
    intro d
    induction d with
    | zero =>
      intro n a w hn _ h
      have : n = m := by omega
      subst this
      rw [List.drop_of_length_le (by rw [List.length_take]; omega)] at h
      exact h
    | succ d ih =>
      intro n a w hn hs h
      simp only [seqP, Bool.and_eq_true, decide_eq_true_eq] at hs
      have hnl : n < l.toArray.size := by omega
      have hnl' : n < l.length := by simpa using hnl
      obtain ⟨o, ho⟩ : ∃ o, l[n]? = some o := ⟨_, List.getElem?_eq_getElem hnl'⟩
      have e1 : (l.take m).drop n = o :: (l.take m).drop (n + 1) := by
        rw [List.drop_eq_getElem_cons (by rw [List.length_take]; omega)]
        congr 1
        rw [List.getElem_take]
        exact (List.getElem?_eq_some_iff.1 ho).2
      rw [e1] at h
      unfold RestAt
      rw [show l.toArray.size - n = (l.toArray.size - (n + 1)) + 1 by omega]
      refine ⟨fun h1 => (by rw [hs.1] at h1; cases h1), fun i hi => ?_⟩
      rw [hs.1] at hi
      have hik : i = n := by simpa using hi
      subst hik
      refine wpOp_of_list (by simpa using ho) h fun a' w' h' => ?_
      rw [listedN_succ]
      exact ih (i + 1) a' w' (by omega) (by rw [← listedN_succ]; exact hs.2) h'
  exact key (m - n) n a w (by omega) hs h
/-- The region's end. -/
theorem rest_end {n : Nat} {a : Act} {w : World} (hB : Region.seqB .any l.toArray (l.toArray.size - n) n (listedN l.toArray.size n) = true) (h : wpList P l.toArray Q (l.drop n) a w) : RestAt P Q l n a w := by
  unfold RestAt
  have hdl : (l.drop n).length = l.toArray.size - n := by simp
  rw [← hdl]
  refine wpAny_of_seq (l.drop n) n _ _ w (fun j => by simp [List.getElem?_drop]) ?_ h
  rw [hdl]; exact hB

theorem headInv_from {n m : Nat} (hhead : headB .any l.toArray m = true) (hnm : n ≤ m) : HeadInv .any l.toArray m (listedN l.toArray.size n) := by
  refine ⟨by simp [listedN], fun j oj hj hl e he hb => ?_, fun t h1 h2 => ?_⟩
  · have hjs : j < l.length := by have := (Array.getElem?_eq_some_iff.1 hj).1; simpa using this
    have hjn : j < n := by simpa [listedN, hjs] using hl
    obtain ⟨o, ho, haft, _⟩ := headB_spec hhead (show j < m by omega)
    have : oj = o := by rw [ho] at hj; exact (Option.some.inj hj).symm
    subst this
    have hlt := haft e he hb
    have hes : e.on < l.length := by omega
    have : e.on < n := by omega
    simp [listedN, hes, this]
  · have h2' : t < l.length := by simpa using h2
    simp [listedN, h2']; omega
theorem any_rest {n : Nat} {Inv : Array Bool → (Nat → Value) → World → Prop} {a0 : Act} (hB : openB l.toArray n = true)
    (step : ∀ i o, i < n → l[i]? = some o → ∀ (listed : Array Bool) (vs : Nat → Value) (w : World), Inv listed vs w → i < listed.size → listed.getD i false = false → (∀ j, Region.waitsFor .any l.toArray i j = true → listed.getD j false = true) →
      (Region.wanted o (yielded l.toArray (fullOf a0 l n vs).tmps) = true → StpR P (fun u w' => Inv (listed.setIfInBounds i true) (updV vs i u) w') ((execOp (fullOf a0 l n vs).eval o).run P w)) ∧
      (Region.wanted o (yielded l.toArray (fullOf a0 l n vs).tmps) = false → Inv (listed.setIfInBounds i true) (updV vs i undef) w))
    (tail : ∀ vs w', Inv (listedN l.toArray.size n) vs w' → RestAt P Q l n (fullOf a0 l n vs) w') :
    ∀ (c : Nat) (listed : Array Bool) (vs : Nat → Value) (a : Act) (w : World), leftN n listed = c → HeadInv .any l.toArray n listed → Agree l.toArray n vs a0 listed a → Inv listed vs w →
      wpAny P .any l.toArray Q (c + (l.toArray.size - n)) listed a w := by
  simp only [openB, Bool.and_eq_true, Bool.or_eq_true, decide_eq_true_eq] at hB
  obtain ⟨⟨⟨hsel, hn⟩, hsink⟩, hhead⟩ := hB
  have hn' : n ≤ l.length := by simpa using hn
  have hall : ∀ j, j < n → (listedN l.toArray.size n).getD j false = true := by
    intro j hj
    have : j < l.length := by omega
    simp [listedN, this, hj]
  intro c
  induction c with
  | zero =>
    intro listed vs a w hc inv hag hw
    have h1 := leftN_zero hc
    have he := listed_eq inv.size h1 inv.tail
    subst he
    have hau := hag.unique (putAll_agreeF hhead hn')
    subst hau
    rw [Nat.zero_add]
    exact tail vs w hw
  | succ c ih =>
    intro listed vs a w hc inv hag hw
    obtain ⟨i0, g1, g2, g3⟩ := leftN_pos (n := n) (listed := listed) (by omega)
    have hin : i0 < listed.size := by rw [inv.size]; omega
    obtain ⟨o0, ho0, hon, _, _⟩ := headB_spec hhead g1
    have hready : i0 ∈ Region.ready .any l.toArray listed := mem_ready.2 ⟨getD_in hin g2, o0, ho0, fun e he hb => g3 _ (hon e he hb)⟩
    rw [show c + 1 + (l.toArray.size - n) = (c + (l.toArray.size - n)) + 1 by omega]
    refine ⟨fun h => (by rw [h] at hready; cases hready), fun i hi => ?_⟩
    have hilt : i < n := by
      rcases Nat.lt_or_ge i n with h | h
      · exact h
      · exfalso
        obtain ⟨hil, oi, hoi, _⟩ := mem_ready.1 hi
        have hisz : i < l.toArray.size := (Array.getElem?_eq_some_iff.1 hoi).1
        rcases hsink with hsz | ⟨hs, hch⟩
        · omega
        · exact tail_waits hs hch (by omega) inv _ i0 rfl g1 (getD_in hin g2) i h hi
    obtain ⟨hil, oi, hoi, hall'⟩ := mem_ready.1 hi
    obtain ⟨o, ho, _, hlk, hdst⟩ := headB_spec hhead hilt
    have hoo : oi = o := by rw [ho] at hoi; simpa using hoi.symm
    subst hoo
    have hil2 : i < listed.size := by rw [inv.size]; exact (Array.getElem?_eq_some_iff.1 ho).1
    have hwf : ∀ j, Region.waitsFor .any l.toArray i j = true → listed.getD j false = true := by
      intro j hj
      obtain ⟨oj, hoj, e, he, hb, hon'⟩ := Region.waitsFor_spec hj
      have : oj = oi := by rw [ho] at hoj; simpa using hoj.symm
      subst this
      have := hall' e he hb
      rw [hon'] at this
      exact this
    refine wpOp_stepR ho (Region.noSelect_spec hsel i oi · · ho) (fun t ht => frame_looks hag (putAll_agreeF hhead hn') hall fun j hj hd => hwf j (hlk t ht j hj hd)) (step i oi hilt (by simpa using ho) listed vs w hw hil2 (getD_both hil) hwf) (fun u w' hw' => ?_)
    have hag2 : Agree l.toArray n (updV vs i u) a0 listed a := hag.congr fun j hj => by
      have : j ≠ i := by rintro rfl; rw [getD_both hil] at hj; cases hj
      simp [updV, this]
    have hp := hag2.put ho hil2 hdst
    rw [show updV vs i u i = u by simp [updV]] at hp
    refine ih _ _ _ w' ?_ (inv.set hi hilt) hp hw'
    have := leftN_set (n := n) hilt hil2 (getD_both hil)
    omega

/-- What an operation of the region has left in a frame. -/
def ownOf (a : Act) (l : List Oper) (j : Nat) : Value := match (l[j]?).bind (·.dst) with | some t => a.tmps.getD t undef | none => undef
theorem putAll_own {a : Act} : ∀ (ops : List Oper) (vs : List Value), (∀ (k : Nat) o v t, ops[k]? = some o → vs[k]? = some v → o.dst = some t → v = a.tmps.getD t undef) → putAll a ops vs = a
  | [], _, _ => by unfold putAll; rfl
  | _ :: _, [], _ => by unfold putAll; rfl
  | o :: os, v :: vs, h => by
    have h0 := h 0 o v
    have e : a.put o.dst v = a := by
      cases hd : o.dst with
      | none => rfl
      | some t =>
        have hv := h0 t rfl rfl hd
        subst hv
        show ({ a with tmps := a.tmps.setIfInBounds t (a.tmps.getD t undef) } : Act) = a
        congr 1
        apply Array.ext_getElem?
        intro k
        rw [Array.getElem?_setIfInBounds]
        split
        · rename_i e; subst e
          split
          · rename_i hlt; simp [hlt]
          · rename_i hge; rw [Array.getElem?_eq_none (by omega)]
        · rfl
    rw [putAll, e]
    exact putAll_own os vs fun k o' v' t h1 h2 h3 => h (k + 1) o' v' t (by simpa using h1) (by simpa using h2) h3
/-- The frame when operations n .. m - 1 have given the values vs. -/
def fullFrom (a : Act) (l : List Oper) (n m : Nat) (vs : Nat → Value) : Act := putAll a ((l.take m).drop n) ((List.range' n (m - n)).map vs)
theorem fullOf_from {a : Act} {n m : Nat} {vs : Nat → Value} (hnm : n ≤ m) (hml : m ≤ l.length) (h : ∀ j, j < n → vs j = ownOf a l j) : fullOf a l m vs = fullFrom a l n m vs := by
  unfold fullOf fullFrom
  have e1 : List.range m = List.range n ++ List.range' n (m - n) := by
    obtain ⟨k, rfl⟩ := Nat.exists_eq_add_of_le hnm
    rw [List.range_eq_range', List.range_eq_range', Nat.add_sub_cancel_left]
    have := List.range'_append_1 (s := 0) (m := n) (n := k)
    rw [Nat.zero_add] at this
    exact this.symm
  have e2 : l.take m = l.take n ++ (l.take m).drop n := by
    have : l.take n = (l.take m).take n := by rw [List.take_take, Nat.min_eq_left hnm]
    rw [this, List.take_append_drop]
  rw [e1, List.map_append]
  conv => lhs; rw [e2]
  rw [putAll_append _ _ _ (by simp; omega)]
  rw [putAll_own (l.take n) ((List.range n).map vs) ?_]
  intro k o v t h1 h2 h3
  have hk : k < n := by
    rcases Nat.lt_or_ge k n with hk | hk
    · exact hk
    · rw [List.getElem?_eq_none (by simp; omega)] at h1; cases h1
  have hv : v = vs k := by
    rw [List.getElem?_map, List.getElem?_range hk] at h2
    exact (Option.some.inj h2).symm
  have ho : l[k]? = some o := by rw [List.getElem?_take, if_pos hk] at h1; exact h1
  rw [hv, h k hk]
  unfold ownOf
  rw [ho]
  simp [h3]

/-- Operations whose order is open: an invariant over what was done. -/
theorem rest_open {n m : Nat} {a : Act} {w : World} (Inv : Array Bool → (Nat → Value) → World → Prop) (hnm : n ≤ m) (hB : openB l.toArray m = true) (h0 : ∀ vs, Inv (listedN l.toArray.size n) vs w)
    (step : ∀ i o, n ≤ i → i < m → l[i]? = some o → ∀ (listed : Array Bool) (vs : Nat → Value) (fu : Act) (w : World), Inv listed vs w → i < listed.size → listed.getD i false = false →
      (∀ t, t < a.tmps.size → (headOf l.toArray m t).all (· < n) = true → fu.eval (.tmp t) = a.tmps.getD t undef) →
      (∀ j t, t < a.tmps.size → Region.waitsFor .any l.toArray i j = true → headOf l.toArray m t = some j → n ≤ j → listed.getD j false = true ∧ fu.eval (.tmp t) = vs j) →
      (Region.wanted o (yielded l.toArray fu.tmps) = true → StpR P (fun u w' => Inv (listed.setIfInBounds i true) (updV vs i u) w') ((execOp fu.eval o).run P w)) ∧
      (Region.wanted o (yielded l.toArray fu.tmps) = false → Inv (listed.setIfInBounds i true) (updV vs i undef) w))
    (tail : ∀ vs w', Inv (listedN l.toArray.size m) vs w' → RestAt P Q l m (fullFrom a l n m vs) w') : RestAt P Q l n a w := by
  have hB' := hB
  simp only [openB, Bool.and_eq_true, Bool.or_eq_true, decide_eq_true_eq] at hB'
  obtain ⟨⟨⟨hsel, hm⟩, hsink⟩, hhead⟩ := hB'
  have hm' : m ≤ l.length := by simpa using hm
  have hall : ∀ j, j < m → (listedN l.toArray.size m).getD j false = true := by
    intro j hj
    have : j < l.length := by omega
    simp [listedN, this, hj]
  have hag0 : Agree l.toArray m (ownOf a l) a (listedN l.toArray.size n) a := by
    refine ⟨rfl, rfl, fun t ht => ?_⟩
    have e : a.tmps[t]? = some (a.tmps.getD t undef) := by simp [ht]
    cases hh : headOf l.toArray m t with
    | none => exact e
    | some j =>
      have hd := (headOf_some hh).2
      have hd' : (l[j]?).bind (·.dst) = some t := by simpa using hd
      show a.tmps[t]? = some (if _ then ownOf a l j else _)
      unfold ownOf
      rw [hd']
      simp only [ite_self]
      exact e
  have hleft : leftN m (listedN l.toArray.size n) = m - n := by
    unfold leftN
    obtain ⟨k, rfl⟩ := Nat.exists_eq_add_of_le hnm
    rw [List.range_add, List.filter_append, List.length_append]
    rw [List.filter_eq_nil_iff.2 (fun j hj => by
      have hj' := List.mem_range.1 hj
      have : j < l.length := by omega
      simp [listedN, this, hj'])]
    rw [List.filter_eq_self.2 (fun j hj => by
      obtain ⟨x, hx, rfl⟩ := List.mem_map.1 hj
      have hx' := List.mem_range.1 hx
      have : n + x < l.length := by omega
      simp [listedN, this])]
    simp
  have hin0 : ∀ j, j < n → (listedN l.toArray.size n).getD j false = true := by
    intro j hj
    have : j < l.length := by omega
    simp [listedN, this, hj]
  have := any_rest (P := P) (Q := Q) (a0 := a) (Inv := fun listed vs w => (∀ j, j < n → listed.getD j false = true ∧ vs j = ownOf a l j) ∧ Inv listed vs w) hB ?_ ?_ (m - n) _ _ a w hleft (headInv_from hhead hnm) hag0 ⟨fun j hj => ⟨hin0 j hj, rfl⟩, h0 _⟩
  · unfold RestAt
    rwa [show m - n + (l.toArray.size - m) = l.toArray.size - n by omega] at this
  · rintro i o hi ho listed vs w' ⟨hown, hI⟩ hsz hun hw
    have hin : n ≤ i := by
      rcases Nat.lt_or_ge i n with h | h
      · rw [(hown i h).1] at hun; cases hun
      · exact h
    have hf := putAll_agreeF (a0 := a) (vs := vs) hhead hm'
    obtain ⟨s1, s2⟩ := step i o hin hi ho listed vs (fullOf a l m vs) w' hI hsz hun (fun t ht hh => by
      have h := hf.tmps t ht
      show (fullOf a l m vs).tmps.getD t undef = _
      rw [Array.getD_eq_getD_getElem?, h]
      cases hh2 : headOf l.toArray m t with
      | none => rfl
      | some j =>
        rw [hh2] at hh
        have hj : j < n := by simpa using hh
        have hjm := (headOf_some hh2).1
        have hd := (headOf_some hh2).2
        have hd' : (l[j]?).bind (·.dst) = some t := by simpa using hd
        simp only [hall j hjm, if_true, Option.getD_some]
        rw [(hown j hj).2]
        unfold ownOf
        rw [hd']) (fun j t ht hwf hh hj => ⟨hw j hwf, by
      have h := hf.tmps t ht
      rw [hh] at h
      have hjm := (headOf_some hh).1
      simp only [hall j hjm, if_true] at h
      show (fullOf a l m vs).tmps.getD t undef = vs j
      rw [Array.getD_eq_getD_getElem?, h]
      rfl⟩)
    have keep : ∀ u j, j < n → (listed.setIfInBounds i true).getD j false = true ∧ updV vs i u j = ownOf a l j := fun u j hj => by
      rw [getD_set_ne false (by omega : i ≠ j)]
      unfold updV
      rw [if_neg (by omega)]
      exact hown j hj
    refine ⟨fun hwn => ?_, fun hwn => ⟨keep _, s2 hwn⟩⟩
    have h3 := s1 hwn
    generalize (execOp (fullOf a l m vs).eval o).run P w' = r at h3
    cases r with
    | ok nx w2 =>
      cases nx <;> simp only [StpR] at h3 <;> try exact h3.elim
      case value u => exact ⟨keep _, h3⟩
      case skip => exact ⟨keep _, h3⟩
      case enter f args =>
        refine Calls.mono h3 ?_
        rintro e w3 ⟨u, rfl, h4⟩
        exact ⟨u, rfl, keep _, h4⟩
    | halt x w2 => exact h3.elim
  · rintro vs w' ⟨hown, hI⟩
    have := tail vs w' hI
    rwa [← fullOf_from hnm hm' fun j hj => (hown j hj).2] at this
/-- The same, each value known by a predicate that later operations keep. -/
theorem rest_vals {n m : Nat} {a : Act} {w : World} (C : World → Prop) (K : Nat → Value → World → Prop) (hnm : n ≤ m) (hB : openB l.toArray m = true) (h0 : C w)
    (mono : ∀ w w', C w → C w' → Tch [] w w' → ∀ i v, K i v w → K i v w')
    (step : ∀ i o, n ≤ i → i < m → l[i]? = some o → ∀ (fu : Act) (w' : World), C w' → (∀ t, t < a.tmps.size → (headOf l.toArray m t).all (· < n) = true → fu.eval (.tmp t) = a.tmps.getD t undef) →
      (∀ j t, t < a.tmps.size → Region.waitsFor .any l.toArray i j = true → headOf l.toArray m t = some j → n ≤ j → K j (fu.eval (.tmp t)) w') →
      (Region.wanted o (yielded l.toArray fu.tmps) = true → StpR P (fun u w'' => K i u w'' ∧ C w'' ∧ Tch [] w' w'') ((execOp fu.eval o).run P w')) ∧ (Region.wanted o (yielded l.toArray fu.tmps) = false → K i undef w'))
    (tail : ∀ vs w', C w' → (∀ j, n ≤ j → j < m → K j (vs j) w') → RestAt P Q l m (fullFrom a l n m vs) w') : RestAt P Q l n a w := by
  have hm : m ≤ l.length := by
    simp only [openB, Bool.and_eq_true, Bool.or_eq_true, decide_eq_true_eq] at hB
    simpa using hB.1.1.2
  refine rest_open (fun listed vs w => C w ∧ ∀ j, n ≤ j → j < m → listed.getD j false = true → K j (vs j) w) hnm hB (fun vs => ⟨h0, fun j h1 h2 h3 => ?_⟩) ?_ ?_
  · exfalso
    have : j < l.length := by omega
    simp [listedN, this] at h3
    omega
  · rintro i o hni him ho listed vs fu w' ⟨hC, hK⟩ hsz hun old new
    obtain ⟨s1, s2⟩ := step i o hni him ho fu w' hC old fun j t ht hw hh hj => by
      obtain ⟨h1, h2⟩ := new j t ht hw hh hj
      rw [h2]
      exact hK j hj (headOf_some hh).1 h1
    refine ⟨fun hw => (s1 hw).mono ?_, fun hw => ⟨hC, fun j h1 h2 hl => ?_⟩⟩
    · rintro u w'' ⟨k1, k2, k3⟩
      refine ⟨k2, fun j h1 h2 hl => ?_⟩
      unfold updV
      by_cases e : j = i
      · subst e; rw [if_pos rfl]; exact k1
      · rw [if_neg e]; exact mono _ _ hC k2 k3 _ _ (hK j h1 h2 (by rwa [getD_set_ne false (Ne.symm e)] at hl))
    · unfold updV
      by_cases e : j = i
      · subst e; rw [if_pos rfl]; exact s2 hw
      · rw [if_neg e]; exact hK j h1 h2 (by rwa [getD_set_ne false (Ne.symm e)] at hl)
  · rintro vs w' ⟨hC, hK⟩
    exact tail vs w' hC fun j h1 h2 => hK j h1 h2 (by
      have : j < l.length := by omega
      simp [listedN, this, h2])
end
end Go.Cib
