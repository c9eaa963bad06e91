/-
  Small laws, for any program: a region whose order is open, in two parts: in the first what an operation gives hangs on the order (new memory); behind it all is settled.
-/
import Derived.Test.YtkjgbhpnlgcinaaGreatDoorMReg
namespace Go.Cib
open Go

def midB (ops : Array Oper) (n : Nat) : Bool := Region.noSelect ops && decide (n < ops.size) && Region.sinkB .any ops n && Region.chainB .any ops n && headB .any ops n

section
variable {P : Program} {ops : Array Oper} {n : Nat} {Q : Exit → Act → World → Prop}

theorem any_rel_mid {Inv : Array Bool → (Nat → Value) → World → Prop} {a0 : Act} {l : List Oper} (hB : midB l.toArray n = true)
    (step : ∀ i o, i < n → l[i]? = some o → ∀ (listed : Array Bool) (vs : Nat → Value) (w : World), Inv listed vs w → i < listed.size → listed.getD i false = false → (∀ j, Region.waitsFor .any l.toArray i j = true → listed.getD j false = true) →
      (Region.wanted o (yielded l.toArray (fullOf a0 l n vs).tmps) = true → StpR P (fun u w' => Inv (listed.setIfInBounds i true) (updV vs i u) w') ((execOp (fullOf a0 l n vs).eval o).run P w)) ∧
      (Region.wanted o (yielded l.toArray (fullOf a0 l n vs).tmps) = false → Inv (listed.setIfInBounds i true) (updV vs i undef) w))
    (tail : ∀ vs w', HeadInv .any l.toArray n (listedN l.toArray.size n) → Inv (listedN l.toArray.size n) vs w' → wpAny P .any l.toArray Q (l.toArray.size - n) (listedN l.toArray.size n) (fullOf a0 l n vs) w') :
    ∀ (c : Nat) (listed : Array Bool) (vs : Nat → Value) (a : Act) (w : World), leftN n listed = c → HeadInv .any l.toArray n listed → Agree l.toArray n vs a0 listed a → Inv listed vs w →
      wpAny P .any l.toArray Q (c + (l.toArray.size - n)) listed a w := by
  simp only [midB, Bool.and_eq_true, decide_eq_true_eq] at hB
  obtain ⟨⟨⟨⟨hsel, hn⟩, hs⟩, hch⟩, hhead⟩ := hB
  have hn' : n ≤ l.length := by simp at hn; omega
  have hall : ∀ j, j < n → (listedN l.toArray.size n).getD j false = true := by
    intro j hj
    have : j < l.length := by omega
    simp [listedN, this, hj]
  intro c
  induction c with
  | zero =>
    intro listed vs a w hc inv hag hw
    have h1 := leftN_zero hc
    have he := listed_eq inv.size h1 inv.tail
    subst he
    have hau := hag.unique (putAll_agreeF hhead hn')
    subst hau
    rw [Nat.zero_add]
    exact tail vs w inv hw
  | succ c ih =>
    intro listed vs a w hc inv hag hw
    obtain ⟨i0, g1, g2, g3⟩ := leftN_pos (n := n) (listed := listed) (by omega)
    have hin : i0 < listed.size := by rw [inv.size]; omega
    obtain ⟨o0, ho0, hon, _, _⟩ := headB_spec hhead g1
    have hready : i0 ∈ Region.ready .any l.toArray listed := mem_ready.2 ⟨getD_in hin g2, o0, ho0, fun e he hb => g3 _ (hon e he hb)⟩
    rw [show c + 1 + (l.toArray.size - n) = (c + (l.toArray.size - n)) + 1 by omega]
    refine ⟨fun h => (by rw [h] at hready; cases hready), fun i hi => ?_⟩
    have hilt : i < n := by
      rcases Nat.lt_or_ge i n with h | h
      · exact h
      · exfalso
        obtain ⟨hil, oi, hoi, _⟩ := mem_ready.1 hi
        have hisz : i < l.toArray.size := (Array.getElem?_eq_some_iff.1 hoi).1
        exact tail_waits hs hch (by omega) inv _ i0 rfl g1 (getD_in hin g2) i h hi
    obtain ⟨hil, oi, hoi, hall'⟩ := mem_ready.1 hi
    obtain ⟨o, ho, _, hlk, hdst⟩ := headB_spec hhead hilt
    have hoo : oi = o := by rw [ho] at hoi; simpa using hoi.symm
    subst hoo
    have hil2 : i < listed.size := by rw [inv.size]; exact (Array.getElem?_eq_some_iff.1 ho).1
    have hwf : ∀ j, Region.waitsFor .any l.toArray i j = true → listed.getD j false = true := by
      intro j hj
      obtain ⟨oj, hoj, e, he, hb, hon'⟩ := Region.waitsFor_spec hj
      have : oj = oi := by rw [ho] at hoj; simpa using hoj.symm
      subst this
      have := hall' e he hb
      rw [hon'] at this
      exact this
    refine wpOp_stepR ho (Region.noSelect_spec hsel i oi · · ho) (fun t ht => frame_looks hag (putAll_agreeF hhead hn') hall fun j hj hd => hwf j (hlk t ht j hj hd)) (step i oi hilt (by simpa using ho) listed vs w hw hil2 (getD_both hil) hwf) (fun u w' hw' => ?_)
    have hag2 : Agree l.toArray n (updV vs i u) a0 listed a := hag.congr fun j hj => by
      have : j ≠ i := by rintro rfl; rw [getD_both hil] at hj; cases hj
      simp [updV, this]
    have hp := hag2.put ho hil2 hdst
    rw [show updV vs i u i = u by simp [updV]] at hp
    refine ih _ _ _ w' ?_ (inv.set hi hilt) hp hw'
    have := leftN_set (n := n) hilt hil2 (getD_both hil)
    omega

theorem any_inv_from (n1 : Nat) {Inv : World → Prop} {vs : Nat → Value} {a0 full : Act} {l : List Oper} (hB : invB l.toArray n = true) (hf : Agree l.toArray n vs a0 (listedN l.toArray.size n) full)
    (step : ∀ i o, n1 ≤ i → i < n → l[i]? = some o → StepOk P l.toArray full Inv o (vs i)) (tail : ∀ w', Inv w' → wpList P l.toArray Q (l.drop n) full w') :
    ∀ (c : Nat) (listed : Array Bool) (a : Act) (w : World), leftN n listed = c → (∀ j, j < n1 → listed.getD j false = true) → HeadInv .any l.toArray n listed → Agree l.toArray n vs a0 listed a → Inv w →
      wpAny P .any l.toArray Q (c + (l.toArray.size - n)) listed a w := by
  simp only [invB, Bool.and_eq_true, Bool.or_eq_true, decide_eq_true_eq] at hB
  obtain ⟨⟨⟨⟨hsel, hn⟩, hsink⟩, hhead⟩, hseq⟩ := hB
  have hall : ∀ j, j < n → (listedN l.toArray.size n).getD j false = true := by
    intro j hj
    have : j < l.length := by have := hn; simp at this; omega
    simp [listedN, this, hj]
  intro c
  induction c with
  | zero =>
    intro listed a w hc hd1 inv hag hw
    have h1 := leftN_zero hc
    have he := listed_eq inv.size h1 inv.tail
    subst he
    have hau := hag.unique hf
    subst hau
    have hdl : (l.drop n).length = l.toArray.size - n := by simp
    rw [Nat.zero_add, ← hdl]
    refine wpAny_of_seq (l.drop n) n _ a w (fun j => by simp [List.getElem?_drop]) ?_ (tail w hw)
    rw [hdl]; exact hseq
  | succ c ih =>
    intro listed a w hc hd1 inv hag hw
    obtain ⟨i0, g1, g2, g3⟩ := leftN_pos (n := n) (listed := listed) (by omega)
    have hin : i0 < listed.size := by rw [inv.size]; omega
    obtain ⟨o0, ho0, hon, _, _⟩ := headB_spec hhead g1
    have hready : i0 ∈ Region.ready .any l.toArray listed := mem_ready.2 ⟨getD_in hin g2, o0, ho0, fun e he hb => g3 _ (hon e he hb)⟩
    rw [show c + 1 + (l.toArray.size - n) = (c + (l.toArray.size - n)) + 1 by omega]
    refine ⟨fun h => (by rw [h] at hready; cases hready), fun i hi => ?_⟩
    have hilt : i < n := by
      rcases Nat.lt_or_ge i n with h | h
      · exact h
      · exfalso
        obtain ⟨hil, oi, hoi, _⟩ := mem_ready.1 hi
        have hisz : i < l.toArray.size := (Array.getElem?_eq_some_iff.1 hoi).1
        rcases hsink with hsz | ⟨hs, hch⟩
        · omega
        · exact tail_waits hs hch (by omega) inv _ i0 rfl g1 (getD_in hin g2) i h hi
    obtain ⟨hil, oi, hoi, hall'⟩ := mem_ready.1 hi
    have hge : n1 ≤ i := by
      rcases Nat.lt_or_ge i n1 with h | h
      · have := hd1 i h; rw [getD_both hil] at this; cases this
      · exact h
    obtain ⟨o, ho, _, hlk, hdst⟩ := headB_spec hhead hilt
    have hoo : oi = o := by rw [ho] at hoi; simpa using hoi.symm
    subst hoo
    have hil2 : i < listed.size := by rw [inv.size]; exact (Array.getElem?_eq_some_iff.1 ho).1
    refine wpOp_step ho (Region.noSelect_spec hsel i oi · · ho) (fun t ht => frame_looks hag hf hall fun j hj hd => ?_) (step i oi hge hilt (by simpa using ho)) hw (fun w' hw' => ?_)
    · have hwf := hlk t ht j hj hd
      obtain ⟨oj, hoj, e, he, hb, hon'⟩ := Region.waitsFor_spec hwf
      have : oj = oi := by rw [ho] at hoj; simpa using hoj.symm
      subst this
      have := hall' e he hb
      rw [hon'] at this
      exact this
    · refine ih _ _ w' ?_ (fun j hj => (getD_set_ne false (show i ≠ j by omega)).trans (hd1 j hj)) (inv.set hi hilt) (hag.put ho hil2 hdst) hw'
      have := leftN_set (n := n) hilt hil2 (getD_both hil)
      omega


theorem headOf_more {ops : Array Oper} {n1 n t : Nat} (h : n1 ≤ n) : (∀ j, headOf ops n1 t = some j → headOf ops n t = some j) ∧ (headOf ops n1 t = none → ∀ j, headOf ops n t = some j → n1 ≤ j) := by
  obtain ⟨k, rfl⟩ := Nat.exists_eq_add_of_le h
  unfold headOf
  rw [List.range_add, List.find?_append]
  refine ⟨fun j hj => by rw [hj]; rfl, fun hn j hj => ?_⟩
  rw [hn] at hj
  simp only [Option.none_or] at hj
  have := List.mem_of_find?_eq_some hj
  obtain ⟨x, _, rfl⟩ := List.mem_map.1 this
  omega

theorem putAll_append : ∀ {o1 : List Oper} {v1 : List Value} (a : Act) (o2 : List Oper) (v2 : List Value), o1.length = v1.length → putAll a (o1 ++ o2) (v1 ++ v2) = putAll (putAll a o1 v1) o2 v2
  | [], [], a, o2, v2, _ => rfl
  | [], v :: vs, _, _, _, h => by simp at h
  | o :: os, [], _, _, _, h => by simp at h
  | o :: os, v :: vs, a, o2, v2, h => by
    simp only [List.cons_append, putAll]
    exact putAll_append _ _ _ (by simpa using h)

/-- The law. -/
theorem wp_region_two {id : Nat} {a : Act} {w : World} {l : List Oper} (n1 n : Nat) (Inv : Array Bool → (Nat → Value) → World → Prop) (hm : P.follows .mixedOrders = true) (hB1 : midB l.toArray n1 = true) (hB : invB l.toArray n = true) (hnn : n1 ≤ n)
    (h0 : ∀ vs, Inv (Array.replicate l.toArray.size false) vs w.drew)
    (step : ∀ i o, i < n1 → l[i]? = some o → ∀ (listed : Array Bool) (vs : Nat → Value) (w : World), Inv listed vs w → i < listed.size → listed.getD i false = false → (∀ j, Region.waitsFor .any l.toArray i j = true → listed.getD j false = true) →
      (Region.wanted o (yielded l.toArray (fullOf a l n1 vs).tmps) = true → StpR P (fun u w' => Inv (listed.setIfInBounds i true) (updV vs i u) w') ((execOp (fullOf a l n1 vs).eval o).run P w)) ∧
      (Region.wanted o (yielded l.toArray (fullOf a l n1 vs).tmps) = false → Inv (listed.setIfInBounds i true) (updV vs i undef) w))
    (mid : ∀ vs w', Inv (listedN l.toArray.size n1) vs w' → ∃ (vs2 : List Value) (full : Act) (Inv2 : World → Prop), vs2.length = n - n1 ∧ putAll (fullOf a l n1 vs) ((l.take n).drop n1) vs2 = full ∧ Inv2 w' ∧
      StepsOk P l.toArray full Inv2 ((l.take n).drop n1) vs2 ∧ ∀ w'', Inv2 w'' → wpList P l.toArray Q (l.drop n) full w'') : (Code.region id l.toArray true).wp P Q a w := by
  have hB1' := hB1
  simp only [midB, Bool.and_eq_true, decide_eq_true_eq] at hB1'
  obtain ⟨⟨⟨⟨_, hn1⟩, _⟩, _⟩, hhead1⟩ := hB1'
  have hB' := hB
  simp only [invB, Bool.and_eq_true, Bool.or_eq_true, decide_eq_true_eq] at hB'
  obtain ⟨⟨⟨⟨_, hn⟩, _⟩, hhead⟩, _⟩ := hB'
  have hn' : n ≤ l.length := by simpa using hn
  have hn1' : n1 ≤ l.length := by omega
  refine wp_region_any hm ?_
  have inv0 : HeadInv .any l.toArray n1 (Array.replicate l.toArray.size false) :=
    ⟨by simp, fun j oj _ hl => (by rw [getD_replicate_false] at hl; cases hl), fun t _ ht => getD_in (by simpa using ht) (getD_replicate_false _ _)⟩
  have hl0 : leftN n1 (Array.replicate l.toArray.size false) = n1 := by
    unfold leftN
    rw [List.filter_eq_self.2 (fun j _ => by rw [getD_replicate_false]; rfl), List.length_range]
  have := any_rel_mid (P := P) (Q := Q) (Inv := Inv) (a0 := a) hB1 step ?_ n1 _ (fun _ => undef) a _ hl0 inv0 (Agree.start _ _ _ _ _) (h0 _)
  · rwa [show n1 + (l.toArray.size - n1) = l.toArray.size by omega] at this
  · intro vs w' hinv hI
    obtain ⟨vs2, full, Inv2, hlen, hfull, hI2, hsteps, htail⟩ := mid vs w' hI
    have hL : ((List.range n1).map vs ++ vs2).length = n := by simp [hlen]; omega
    have hput : putAll a (l.take n) ((List.range n1).map vs ++ vs2) = full := by
      rw [← hfull]
      unfold fullOf
      rw [← putAll_append _ _ _ (by simp; omega)]
      congr 1
      have : l.take n1 = (l.take n).take n1 := by rw [List.take_take, Nat.min_eq_left hnn]
      rw [this, List.take_append_drop]
    have hf := putAll_agree (a0 := a) (vs := (List.range n1).map vs ++ vs2) hhead hn' hL
    rw [hput] at hf
    have hvs : ∀ j, j < n1 → ((List.range n1).map vs ++ vs2).getD j undef = vs j := by
      intro j hj
      rw [List.getD_eq_getElem?_getD, List.getElem?_append_left (by simpa using hj)]
      simp [hj]
    have hst := putAll_agreeF (a0 := a) (vs := vs) hhead1 hn1'
    have hag : Agree l.toArray n (fun j => ((List.range n1).map vs ++ vs2).getD j undef) a (listedN l.toArray.size n1) (fullOf a l n1 vs) := by
      refine ⟨hst.defers, hst.size, fun t ht => ?_⟩
      rw [hst.tmps t ht]
      congr 1
      obtain ⟨m1, m2⟩ := headOf_more (ops := l.toArray) (t := t) hnn
      cases h1 : headOf l.toArray n1 t with
      | some j =>
        rw [m1 j h1]
        simp only
        rw [hvs j (headOf_some h1).1]
      | none =>
        cases h2 : headOf l.toArray n t with
        | none => rfl
        | some j =>
          simp only
          have hj := m2 h1 j h2
          have hjl : j < l.length := by have := (headOf_some h2).1; omega
          rw [if_neg]
          simp [listedN, hjl]
          omega
    have hleft : leftN n (listedN l.toArray.size n1) = n - n1 := by
      unfold leftN
      obtain ⟨k, rfl⟩ := Nat.exists_eq_add_of_le hnn
      rw [List.range_add, List.filter_append, List.length_append]
      rw [List.filter_eq_nil_iff.2 (fun j hj => by
        have hj' := List.mem_range.1 hj
        have : j < l.length := by omega
        simp [listedN, this, hj'])]
      rw [List.filter_eq_self.2 (fun j hj => by
        obtain ⟨x, hx, rfl⟩ := List.mem_map.1 hj
        have hx' := List.mem_range.1 hx
        have : n1 + x < l.length := by omega
        simp [listedN, this])]
      simp
    have hh : HeadInv .any l.toArray n (listedN l.toArray.size n1) := ⟨hinv.size, hinv.closed, fun t h1 h2 => hinv.tail t (by omega) h2⟩
    have := any_inv_from (P := P) (Q := Q) n1 hB hf (fun i o h1 h2 ho => ?_) htail (n - n1) _ _ w' hleft (fun j hj => by
      have : j < l.length := by omega
      simp [listedN, this, hj]) hh hag hI2
    · rwa [show n - n1 + (l.toArray.size - n) = l.toArray.size - n1 by omega] at this
    · have := StepsOk.get hsteps (by rw [List.length_drop, List.length_take, hlen]; omega) (i - n1) o (by rw [List.getElem?_drop, List.getElem?_take, if_pos (by omega), show n1 + (i - n1) = i by omega]; exact ho)
      have e : ((List.range n1).map vs ++ vs2).getD i undef = vs2.getD (i - n1) undef := by
        rw [List.getD_eq_getElem?_getD, List.getElem?_append_right (by simpa using h1), List.getD_eq_getElem?_getD]
        simp
      rw [e]
      exact this
end
end Go.Cib
/-
  Small laws, for any program: a region whose order is open, in which one operation alone turns what holds.
-/
namespace Go.Cib
open Go
section
variable {P : Program} {ops : Array Oper} {n : Nat} {Q : Exit → Act → World → Prop}

theorem any_one {Inv : Bool → World → Prop} (k : Nat) {vs : Nat → Value} {a0 full : Act} {l : List Oper} (hB : invB l.toArray n = true) (hf : Agree l.toArray n vs a0 (listedN l.toArray.size n) full)
    (step : ∀ i o b, i < n → i ≠ k → l[i]? = some o → StepOk P l.toArray full (Inv b) o (vs i)) (once : ∀ o w, l[k]? = some o → Inv false w → Region.wanted o (yielded l.toArray full.tmps) = true ∧ StpR P (fun u w' => u = vs k ∧ Inv true w') ((execOp full.eval o).run P w)) (hk : k < n) (tail : ∀ w', Inv true w' → wpList P l.toArray Q (l.drop n) full w') :
    ∀ (c : Nat) (listed : Array Bool) (a : Act) (w : World), leftN n listed = c → HeadInv .any l.toArray n listed → Agree l.toArray n vs a0 listed a → Inv (listed.getD k false) w →
      wpAny P .any l.toArray Q (c + (l.toArray.size - n)) listed a w := by
  simp only [invB, Bool.and_eq_true, Bool.or_eq_true, decide_eq_true_eq] at hB
  obtain ⟨⟨⟨⟨hsel, hn⟩, hsink⟩, hhead⟩, hseq⟩ := hB
  have hall : ∀ j, j < n → (listedN l.toArray.size n).getD j false = true := by
    intro j hj
    have : j < l.length := by have := hn; simp at this; omega
    simp [listedN, this, hj]
  intro c
  induction c with
  | zero =>
    intro listed a w hc inv hag hw
    have h1 := leftN_zero hc
    have he := listed_eq inv.size h1 inv.tail
    subst he
    have hau := hag.unique hf
    subst hau
    have hdl : (l.drop n).length = l.toArray.size - n := by simp
    rw [Nat.zero_add, ← hdl]
    refine wpAny_of_seq (l.drop n) n _ a w (fun j => by simp [List.getElem?_drop]) ?_ (tail w (by rw [h1 k hk] at hw; exact hw))
    rw [hdl]; exact hseq
  | succ c ih =>
    intro listed a w hc inv hag hw
    obtain ⟨i0, g1, g2, g3⟩ := leftN_pos (n := n) (listed := listed) (by omega)
    have hin : i0 < listed.size := by rw [inv.size]; omega
    obtain ⟨o0, ho0, hon, _, _⟩ := headB_spec hhead g1
    have hready : i0 ∈ Region.ready .any l.toArray listed := mem_ready.2 ⟨getD_in hin g2, o0, ho0, fun e he hb => g3 _ (hon e he hb)⟩
    rw [show c + 1 + (l.toArray.size - n) = (c + (l.toArray.size - n)) + 1 by omega]
    refine ⟨fun h => (by rw [h] at hready; cases hready), fun i hi => ?_⟩
    have hilt : i < n := by
      rcases Nat.lt_or_ge i n with h | h
      · exact h
      · exfalso
        obtain ⟨hil, oi, hoi, _⟩ := mem_ready.1 hi
        have hisz : i < l.toArray.size := (Array.getElem?_eq_some_iff.1 hoi).1
        rcases hsink with hsz | ⟨hs, hch⟩
        · omega
        · exact tail_waits hs hch (by omega) inv _ i0 rfl g1 (getD_in hin g2) i h hi
    obtain ⟨hil, oi, hoi, hall'⟩ := mem_ready.1 hi
    obtain ⟨o, ho, _, hlk, hdst⟩ := headB_spec hhead hilt
    have hoo : oi = o := by rw [ho] at hoi; simpa using hoi.symm
    subst hoo
    have hil2 : i < listed.size := by rw [inv.size]; exact (Array.getElem?_eq_some_iff.1 ho).1
    have hlook : ∀ t ∈ oi.looksAt l.toArray, a.tmps[t]? = full.tmps[t]? := fun t ht => frame_looks hag hf hall fun j hj hd => (by
      have hwf := hlk t ht j hj hd
      obtain ⟨oj, hoj, e, he, hb, hon'⟩ := Region.waitsFor_spec hwf
      have : oj = oi := by rw [ho] at hoj; simpa using hoj.symm
      subst this
      have := hall' e he hb
      rw [hon'] at this
      exact this)
    have hleft := leftN_set (n := n) hilt hil2 (getD_both hil)
    by_cases hik : i = k
    · subst hik
      rw [getD_both hil] at hw
      obtain ⟨o1, o2⟩ := once oi w (by simpa using ho) hw
      refine wpOp_stepR ho (Region.noSelect_spec hsel i oi · · ho) hlook ⟨fun _ => o2, fun hc => (by rw [o1] at hc; cases hc)⟩ (fun u w' hw' => ?_)
      obtain ⟨rfl, hw'⟩ := hw'
      refine ih _ _ w' (by omega) (inv.set hi hilt) (hag.put ho hil2 hdst) ?_
      rw [show (listed.setIfInBounds i true).getD i false = true by simp [hil2]]
      exact hw'
    · refine wpOp_step ho (Region.noSelect_spec hsel i oi · · ho) hlook (step i oi _ hilt hik (by simpa using ho)) hw (fun w' hw' => ?_)
      refine ih _ _ w' (by omega) (inv.set hi hilt) (hag.put ho hil2 hdst) ?_
      rw [getD_set_ne false hik]
      exact hw'


def StepsBut (P : Program) (ops : Array Oper) (full : Act) (Inv : World → Prop) : Nat → List Oper → List Value → Prop
  | 0, _ :: os, _ :: vs => StepsOk P ops full Inv os vs
  | k + 1, o :: os, v :: vs => StepOk P ops full Inv o v ∧ StepsBut P ops full Inv k os vs
  | _, _, _ => True
theorem StepsBut.get {full : Act} {Inv : World → Prop} : ∀ {k : Nat} {os : List Oper} {vs : List Value}, StepsBut P ops full Inv k os vs → os.length = vs.length → ∀ i o, i ≠ k → os[i]? = some o → StepOk P ops full Inv o (vs.getD i undef)
  | _, [], _, _, _, i, o, _, h => by simp at h
  | _, o :: os, [], _, hl, i, o', _, h => by simp at hl
  | 0, o :: os, v :: vs, hs, hl, 0, o', hne, h => absurd rfl hne
  | 0, o :: os, v :: vs, hs, hl, i + 1, o', _, h => by
    simp only [List.getElem?_cons_succ] at h
    have := StepsOk.get hs (by simpa using hl) i o' h
    simpa using this
  | k + 1, o :: os, v :: vs, hs, hl, 0, o', _, h => by simp at h; subst h; exact hs.1
  | k + 1, o :: os, v :: vs, hs, hl, i + 1, o', hne, h => by
    simp only [List.getElem?_cons_succ] at h
    have := StepsBut.get hs.2 (by simpa using hl) i o' (by omega) h
    simpa using this
theorem stepsBut_cons {full : Act} {Inv : World → Prop} {k : Nat} {o : Oper} {os : List Oper} {v : Value} {vs : List Value} (h : StepOk P ops full Inv o v) (h' : StepsBut P ops full Inv k os vs) : StepsBut P ops full Inv (k + 1) (o :: os) (v :: vs) := ⟨h, h'⟩
theorem stepsBut_here {full : Act} {Inv : World → Prop} {o : Oper} {os : List Oper} {v : Value} {vs : List Value} (h : StepsOk P ops full Inv os vs) : StepsBut P ops full Inv 0 (o :: os) (v :: vs) := h

/-- As wp_region_inv, and the k-th operation alone turns what holds. -/
theorem wp_region_one {id : Nat} {a : Act} {w : World} {l : List Oper} (n k : Nat) (vs : List Value) (full : Act) (Inv : Bool → World → Prop) (hm : P.follows .mixedOrders = true) (hB : invB l.toArray n = true) (hv : vs.length = n)
    (hfull : putAll a (l.take n) vs = full) (hk : k < n) (h0 : Inv false w.drew) (steps : ∀ b, StepsBut P l.toArray full (Inv b) k (l.take n) vs) (once : ∀ o w, l[k]? = some o → Inv false w → Region.wanted o (yielded l.toArray full.tmps) = true ∧ StpR P (fun u w' => u = vs.getD k undef ∧ Inv true w') ((execOp full.eval o).run P w)) (tail : ∀ w', Inv true w' → wpList P l.toArray Q (l.drop n) full w') : (Code.region id l.toArray true).wp P Q a w := by
  have hB' := hB
  simp only [invB, Bool.and_eq_true, Bool.or_eq_true, decide_eq_true_eq] at hB'
  obtain ⟨⟨⟨⟨hsel, hn⟩, hsink⟩, hhead⟩, hseq⟩ := hB'
  have hn' : n ≤ l.length := by simpa using hn
  have hag := putAll_agree (a0 := a) (vs := vs) hhead hn' hv
  rw [hfull] at hag
  refine wp_region_any hm ?_
  have inv0 : HeadInv .any l.toArray n (Array.replicate l.toArray.size false) :=
    ⟨by simp, fun j oj _ hl => (by rw [getD_replicate_false] at hl; cases hl), fun t _ ht => getD_in (by simpa using ht) (getD_replicate_false _ _)⟩
  have hl0 : leftN n (Array.replicate l.toArray.size false) = n := by
    unfold leftN
    rw [List.filter_eq_self.2 (fun j _ => by rw [getD_replicate_false]; rfl), List.length_range]
  have := any_one (P := P) (Q := Q) (Inv := Inv) k hB hag (fun i o b hi hne ho => StepsBut.get (steps b) (by rw [List.length_take, hv]; omega) i o hne (by rw [List.getElem?_take, if_pos hi]; exact ho)) once hk tail n _ a _ hl0 inv0 (Agree.start _ _ _ _ _) (by rw [getD_replicate_false]; exact h0)
  rwa [show n + (l.toArray.size - n) = l.toArray.size by omega] at this

end
end Go.Cib
