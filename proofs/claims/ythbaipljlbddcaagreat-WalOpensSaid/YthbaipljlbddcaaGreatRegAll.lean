/-
  Small laws, for any program: a region whose order is open, in two parts: in the first what an operation gives hangs on the order (new memory); behind it all is settled.
-/
import Derived.Test.YthbaipljlbddcaaGreatRegion
import Derived.Test.YthbaipljlbddcaaGreatRefAll
import Derived.BigQuiet
import Derived.Test.YthbaipljlbddcaaGreatRefAll
namespace Go.Cib
open Go

def midB (ops : Array Oper) (n : Nat) : Bool := Region.noSelect ops && decide (n < ops.size) && Region.sinkB .any ops n && Region.chainB .any ops n && headB .any ops n

section
variable {P : Program} {ops : Array Oper} {n : Nat} {Q : Exit → Act → World → Prop}

theorem any_rel_mid {Inv : Array Bool → (Nat → Value) → World → Prop} {a0 : Act} {l : List Oper} (hB : midB l.toArray n = true)
    (step : ∀ i o, i < n → l[i]? = some o → ∀ (listed : Array Bool) (vs : Nat → Value) (w : World), Inv listed vs w → i < listed.size → listed.getD i false = false → (∀ j, Region.waitsFor .any l.toArray i j = true → listed.getD j false = true) →
      (Region.wanted o (yielded l.toArray (fullOf a0 l n vs).tmps) = true → StpR P (fun u w' => Inv (listed.setIfInBounds i true) (updV vs i u) w') ((execOp (fullOf a0 l n vs).eval o).run P w)) ∧
      (Region.wanted o (yielded l.toArray (fullOf a0 l n vs).tmps) = false → Inv (listed.setIfInBounds i true) (updV vs i undef) w))
    (tail : ∀ vs w', HeadInv .any l.toArray n (listedN l.toArray.size n) → Inv (listedN l.toArray.size n) vs w' → wpAny P .any l.toArray Q (l.toArray.size - n) (listedN l.toArray.size n) (fullOf a0 l n vs) w') :
    ∀ (c : Nat) (listed : Array Bool) (vs : Nat → Value) (a : Act) (w : World), leftN n listed = c → HeadInv .any l.toArray n listed → Agree l.toArray n vs a0 listed a → Inv listed vs w →
      wpAny P .any l.toArray Q (c + (l.toArray.size - n)) listed a w := by
  simp only [midB, Bool.and_eq_true, decide_eq_true_eq] at hB
  obtain ⟨⟨⟨⟨hsel, hn⟩, hs⟩, hch⟩, hhead⟩ := hB
  have hn' : n ≤ l.length := by simp at hn; omega
  have hall : ∀ j, j < n → (listedN l.toArray.size n).getD j false = true := by
    intro j hj
    have : j < l.length := by omega
    simp [listedN, this, hj]
  intro c
  induction c with
  | zero =>
    intro listed vs a w hc inv hag hw
    have h1 := leftN_zero hc
    have he := listed_eq inv.size h1 inv.tail
    subst he
    have hau := hag.unique (putAll_agreeF hhead hn')
    subst hau
    rw [Nat.zero_add]
    exact tail vs w inv hw
  | succ c ih =>
    intro listed vs a w hc inv hag hw
    obtain ⟨i0, g1, g2, g3⟩ := leftN_pos (n := n) (listed := listed) (by omega)
    have hin : i0 < listed.size := by rw [inv.size]; omega
    obtain ⟨o0, ho0, hon, _, _⟩ := headB_spec hhead g1
    have hready : i0 ∈ Region.ready .any l.toArray listed := mem_ready.2 ⟨getD_in hin g2, o0, ho0, fun e he hb => g3 _ (hon e he hb)⟩
    rw [show c + 1 + (l.toArray.size - n) = (c + (l.toArray.size - n)) + 1 by omega]
    refine ⟨fun h => (by rw [h] at hready; cases hready), fun i hi => ?_⟩
    have hilt : i < n := by
      rcases Nat.lt_or_ge i n with h | h
      · exact h
      · exfalso
        obtain ⟨hil, oi, hoi, _⟩ := mem_ready.1 hi
        have hisz : i < l.toArray.size := (Array.getElem?_eq_some_iff.1 hoi).1
        exact tail_waits hs hch (by omega) inv _ i0 rfl g1 (getD_in hin g2) i h hi
    obtain ⟨hil, oi, hoi, hall'⟩ := mem_ready.1 hi
    obtain ⟨o, ho, _, hlk, hdst⟩ := headB_spec hhead hilt
    have hoo : oi = o := by rw [ho] at hoi; simpa using hoi.symm
    subst hoo
    have hil2 : i < listed.size := by rw [inv.size]; exact (Array.getElem?_eq_some_iff.1 ho).1
    have hwf : ∀ j, Region.waitsFor .any l.toArray i j = true → listed.getD j false = true := by
      intro j hj
      obtain ⟨oj, hoj, e, he, hb, hon'⟩ := Region.waitsFor_spec hj
      have : oj = oi := by rw [ho] at hoj; simpa using hoj.symm
      subst this
      have := hall' e he hb
      rw [hon'] at this
      exact this
    refine wpOp_stepR ho (Region.noSelect_spec hsel i oi · · ho) (fun t ht => frame_looks hag (putAll_agreeF hhead hn') hall fun j hj hd => hwf j (hlk t ht j hj hd)) (step i oi hilt (by simpa using ho) listed vs w hw hil2 (getD_both hil) hwf) (fun u w' hw' => ?_)
    have hag2 : Agree l.toArray n (updV vs i u) a0 listed a := hag.congr fun j hj => by
      have : j ≠ i := by rintro rfl; rw [getD_both hil] at hj; cases hj
      simp [updV, this]
    have hp := hag2.put ho hil2 hdst
    rw [show updV vs i u i = u by simp [updV]] at hp
    refine ih _ _ _ w' ?_ (inv.set hi hilt) hp hw'
    have := leftN_set (n := n) hilt hil2 (getD_both hil)
    omega

theorem any_inv_from (n1 : Nat) {Inv : World → Prop} {vs : Nat → Value} {a0 full : Act} {l : List Oper} (hB : invB l.toArray n = true) (hf : Agree l.toArray n vs a0 (listedN l.toArray.size n) full)
    (step : ∀ i o, n1 ≤ i → i < n → l[i]? = some o → StepOk P l.toArray full Inv o (vs i)) (tail : ∀ w', Inv w' → wpList P l.toArray Q (l.drop n) full w') :
    ∀ (c : Nat) (listed : Array Bool) (a : Act) (w : World), leftN n listed = c → (∀ j, j < n1 → listed.getD j false = true) → HeadInv .any l.toArray n listed → Agree l.toArray n vs a0 listed a → Inv w →
      wpAny P .any l.toArray Q (c + (l.toArray.size - n)) listed a w := by
  simp only [invB, Bool.and_eq_true, Bool.or_eq_true, decide_eq_true_eq] at hB
  obtain ⟨⟨⟨⟨hsel, hn⟩, hsink⟩, hhead⟩, hseq⟩ := hB
  have hall : ∀ j, j < n → (listedN l.toArray.size n).getD j false = true := by
    intro j hj
    have : j < l.length := by have := hn; simp at this; omega
    simp [listedN, this, hj]
  intro c
  induction c with
  | zero =>
    intro listed a w hc hd1 inv hag hw
    have h1 := leftN_zero hc
    have he := listed_eq inv.size h1 inv.tail
    subst he
    have hau := hag.unique hf
    subst hau
    have hdl : (l.drop n).length = l.toArray.size - n := by simp
    rw [Nat.zero_add, ← hdl]
    refine wpAny_of_seq (l.drop n) n _ a w (fun j => by simp [List.getElem?_drop]) ?_ (tail w hw)
    rw [hdl]; exact hseq
  | succ c ih =>
    intro listed a w hc hd1 inv hag hw
    obtain ⟨i0, g1, g2, g3⟩ := leftN_pos (n := n) (listed := listed) (by omega)
    have hin : i0 < listed.size := by rw [inv.size]; omega
    obtain ⟨o0, ho0, hon, _, _⟩ := headB_spec hhead g1
    have hready : i0 ∈ Region.ready .any l.toArray listed := mem_ready.2 ⟨getD_in hin g2, o0, ho0, fun e he hb => g3 _ (hon e he hb)⟩
    rw [show c + 1 + (l.toArray.size - n) = (c + (l.toArray.size - n)) + 1 by omega]
    refine ⟨fun h => (by rw [h] at hready; cases hready), fun i hi => ?_⟩
    have hilt : i < n := by
      rcases Nat.lt_or_ge i n with h | h
      · exact h
      · exfalso
        obtain ⟨hil, oi, hoi, _⟩ := mem_ready.1 hi
        have hisz : i < l.toArray.size := (Array.getElem?_eq_some_iff.1 hoi).1
        rcases hsink with hsz | ⟨hs, hch⟩
        · omega
        · exact tail_waits hs hch (by omega) inv _ i0 rfl g1 (getD_in hin g2) i h hi
    obtain ⟨hil, oi, hoi, hall'⟩ := mem_ready.1 hi
    have hge : n1 ≤ i := by
      rcases Nat.lt_or_ge i n1 with h | h
      · have := hd1 i h; rw [getD_both hil] at this; cases this
      · exact h
    obtain ⟨o, ho, _, hlk, hdst⟩ := headB_spec hhead hilt
    have hoo : oi = o := by rw [ho] at hoi; simpa using hoi.symm
    subst hoo
    have hil2 : i < listed.size := by rw [inv.size]; exact (Array.getElem?_eq_some_iff.1 ho).1
    refine wpOp_step ho (Region.noSelect_spec hsel i oi · · ho) (fun t ht => frame_looks hag hf hall fun j hj hd => ?_) (step i oi hge hilt (by simpa using ho)) hw (fun w' hw' => ?_)
    · have hwf := hlk t ht j hj hd
      obtain ⟨oj, hoj, e, he, hb, hon'⟩ := Region.waitsFor_spec hwf
      have : oj = oi := by rw [ho] at hoj; simpa using hoj.symm
      subst this
      have := hall' e he hb
      rw [hon'] at this
      exact this
    · refine ih _ _ w' ?_ (fun j hj => (getD_set_ne false (show i ≠ j by omega)).trans (hd1 j hj)) (inv.set hi hilt) (hag.put ho hil2 hdst) hw'
      have := leftN_set (n := n) hilt hil2 (getD_both hil)
      omega


theorem headOf_more {ops : Array Oper} {n1 n t : Nat} (h : n1 ≤ n) : (∀ j, headOf ops n1 t = some j → headOf ops n t = some j) ∧ (headOf ops n1 t = none → ∀ j, headOf ops n t = some j → n1 ≤ j) := by
  obtain ⟨k, rfl⟩ := Nat.exists_eq_add_of_le h
  unfold headOf
  rw [List.range_add, List.find?_append]
  refine ⟨fun j hj => by rw [hj]; rfl, fun hn j hj => ?_⟩
  rw [hn] at hj
  simp only [Option.none_or] at hj
  have := List.mem_of_find?_eq_some hj
  obtain ⟨x, _, rfl⟩ := List.mem_map.1 this
  omega

theorem putAll_append : ∀ {o1 : List Oper} {v1 : List Value} (a : Act) (o2 : List Oper) (v2 : List Value), o1.length = v1.length → putAll a (o1 ++ o2) (v1 ++ v2) = putAll (putAll a o1 v1) o2 v2
  | [], [], a, o2, v2, _ => rfl
  | [], v :: vs, _, _, _, h => by simp at h
  | o :: os, [], _, _, _, h => by simp at h
  | o :: os, v :: vs, a, o2, v2, h => by
    simp only [List.cons_append, putAll]
    exact putAll_append _ _ _ (by simpa using h)

/-- The law. -/
theorem wp_region_two {id : Nat} {a : Act} {w : World} {l : List Oper} (n1 n : Nat) (Inv : Array Bool → (Nat → Value) → World → Prop) (hm : P.follows .mixedOrders = true) (hB1 : midB l.toArray n1 = true) (hB : invB l.toArray n = true) (hnn : n1 ≤ n)
    (h0 : ∀ vs, Inv (Array.replicate l.toArray.size false) vs w.drew)
    (step : ∀ i o, i < n1 → l[i]? = some o → ∀ (listed : Array Bool) (vs : Nat → Value) (w : World), Inv listed vs w → i < listed.size → listed.getD i false = false → (∀ j, Region.waitsFor .any l.toArray i j = true → listed.getD j false = true) →
      (Region.wanted o (yielded l.toArray (fullOf a l n1 vs).tmps) = true → StpR P (fun u w' => Inv (listed.setIfInBounds i true) (updV vs i u) w') ((execOp (fullOf a l n1 vs).eval o).run P w)) ∧
      (Region.wanted o (yielded l.toArray (fullOf a l n1 vs).tmps) = false → Inv (listed.setIfInBounds i true) (updV vs i undef) w))
    (mid : ∀ vs w', Inv (listedN l.toArray.size n1) vs w' → ∃ (vs2 : List Value) (full : Act) (Inv2 : World → Prop), vs2.length = n - n1 ∧ putAll (fullOf a l n1 vs) ((l.take n).drop n1) vs2 = full ∧ Inv2 w' ∧
      StepsOk P l.toArray full Inv2 ((l.take n).drop n1) vs2 ∧ ∀ w'', Inv2 w'' → wpList P l.toArray Q (l.drop n) full w'') : (Code.region id l.toArray true).wp P Q a w := by
  have hB1' := hB1
  simp only [midB, Bool.and_eq_true, decide_eq_true_eq] at hB1'
  obtain ⟨⟨⟨⟨_, hn1⟩, _⟩, _⟩, hhead1⟩ := hB1'
  have hB' := hB
  simp only [invB, Bool.and_eq_true, Bool.or_eq_true, decide_eq_true_eq] at hB'
  obtain ⟨⟨⟨⟨_, hn⟩, _⟩, hhead⟩, _⟩ := hB'
  have hn' : n ≤ l.length := by simpa using hn
  have hn1' : n1 ≤ l.length := by omega
  refine wp_region_any hm ?_
  have inv0 : HeadInv .any l.toArray n1 (Array.replicate l.toArray.size false) :=
    ⟨by simp, fun j oj _ hl => (by rw [getD_replicate_false] at hl; cases hl), fun t _ ht => getD_in (by simpa using ht) (getD_replicate_false _ _)⟩
  have hl0 : leftN n1 (Array.replicate l.toArray.size false) = n1 := by
    unfold leftN
    rw [List.filter_eq_self.2 (fun j _ => by rw [getD_replicate_false]; rfl), List.length_range]
  have := any_rel_mid (P := P) (Q := Q) (Inv := Inv) (a0 := a) hB1 step ?_ n1 _ (fun _ => undef) a _ hl0 inv0 (Agree.start _ _ _ _ _) (h0 _)
  · rwa [show n1 + (l.toArray.size - n1) = l.toArray.size by omega] at this
  · intro vs w' hinv hI
    obtain ⟨vs2, full, Inv2, hlen, hfull, hI2, hsteps, htail⟩ := mid vs w' hI
    have hL : ((List.range n1).map vs ++ vs2).length = n := by simp [hlen]; omega
    have hput : putAll a (l.take n) ((List.range n1).map vs ++ vs2) = full := by
      rw [← hfull]
      unfold fullOf
      rw [← putAll_append _ _ _ (by simp; omega)]
      congr 1
      have : l.take n1 = (l.take n).take n1 := by rw [List.take_take, Nat.min_eq_left hnn]
      rw [this, List.take_append_drop]
    have hf := putAll_agree (a0 := a) (vs := (List.range n1).map vs ++ vs2) hhead hn' hL
    rw [hput] at hf
    have hvs : ∀ j, j < n1 → ((List.range n1).map vs ++ vs2).getD j undef = vs j := by
      intro j hj
      rw [List.getD_eq_getElem?_getD, List.getElem?_append_left (by simpa using hj)]
      simp [hj]
    have hst := putAll_agreeF (a0 := a) (vs := vs) hhead1 hn1'
    have hag : Agree l.toArray n (fun j => ((List.range n1).map vs ++ vs2).getD j undef) a (listedN l.toArray.size n1) (fullOf a l n1 vs) := by
      refine ⟨hst.defers, hst.size, fun t ht => ?_⟩
      rw [hst.tmps t ht]
      congr 1
      obtain ⟨m1, m2⟩ := headOf_more (ops := l.toArray) (t := t) hnn
      cases h1 : headOf l.toArray n1 t with
      | some j =>
        rw [m1 j h1]
        simp only
        rw [hvs j (headOf_some h1).1]
      | none =>
        cases h2 : headOf l.toArray n t with
        | none => rfl
        | some j =>
          simp only
          have hj := m2 h1 j h2
          have hjl : j < l.length := by have := (headOf_some h2).1; omega
          rw [if_neg]
          simp [listedN, hjl]
          omega
    have hleft : leftN n (listedN l.toArray.size n1) = n - n1 := by
      unfold leftN
      obtain ⟨k, rfl⟩ := Nat.exists_eq_add_of_le hnn
      rw [List.range_add, List.filter_append, List.length_append]
      rw [List.filter_eq_nil_iff.2 (fun j hj => by
        have hj' := List.mem_range.1 hj
        have : j < l.length := by omega
        simp [listedN, this, hj'])]
      rw [List.filter_eq_self.2 (fun j hj => by
        obtain ⟨x, hx, rfl⟩ := List.mem_map.1 hj
        have hx' := List.mem_range.1 hx
        have : n1 + x < l.length := by omega
        simp [listedN, this])]
      simp
    have hh : HeadInv .any l.toArray n (listedN l.toArray.size n1) := ⟨hinv.size, hinv.closed, fun t h1 h2 => hinv.tail t (by omega) h2⟩
    have := any_inv_from (P := P) (Q := Q) n1 hB hf (fun i o h1 h2 ho => ?_) htail (n - n1) _ _ w' hleft (fun j hj => by
      have : j < l.length := by omega
      simp [listedN, this, hj]) hh hag hI2
    · rwa [show n - n1 + (l.toArray.size - n) = l.toArray.size - n1 by omega] at this
    · have := StepsOk.get hsteps (by rw [List.length_drop, List.length_take, hlen]; omega) (i - n1) o (by rw [List.getElem?_drop, List.getElem?_take, if_pos (by omega), show n1 + (i - n1) = i by omega]; exact ho)
      have e : ((List.range n1).map vs ++ vs2).getD i undef = vs2.getD (i - n1) undef := by
        rw [List.getD_eq_getElem?_getD, List.getElem?_append_right (by simpa using h1), List.getD_eq_getElem?_getD]
        simp
      rw [e]
      exact this
end
end Go.Cib
/-
  Small laws, for any program: a region whose order is open, in which one operation alone turns what holds.
-/
namespace Go.Cib
open Go
section
variable {P : Program} {ops : Array Oper} {n : Nat} {Q : Exit → Act → World → Prop}

theorem any_one {Inv : Bool → World → Prop} (k : Nat) {vs : Nat → Value} {a0 full : Act} {l : List Oper} (hB : invB l.toArray n = true) (hf : Agree l.toArray n vs a0 (listedN l.toArray.size n) full)
    (step : ∀ i o b, i < n → i ≠ k → l[i]? = some o → StepOk P l.toArray full (Inv b) o (vs i)) (once : ∀ o w, l[k]? = some o → Inv false w → Region.wanted o (yielded l.toArray full.tmps) = true ∧ StpR P (fun u w' => u = vs k ∧ Inv true w') ((execOp full.eval o).run P w)) (hk : k < n) (tail : ∀ w', Inv true w' → wpList P l.toArray Q (l.drop n) full w') :
    ∀ (c : Nat) (listed : Array Bool) (a : Act) (w : World), leftN n listed = c → HeadInv .any l.toArray n listed → Agree l.toArray n vs a0 listed a → Inv (listed.getD k false) w →
      wpAny P .any l.toArray Q (c + (l.toArray.size - n)) listed a w := by
  simp only [invB, Bool.and_eq_true, Bool.or_eq_true, decide_eq_true_eq] at hB
  obtain ⟨⟨⟨⟨hsel, hn⟩, hsink⟩, hhead⟩, hseq⟩ := hB
  have hall : ∀ j, j < n → (listedN l.toArray.size n).getD j false = true := by
    intro j hj
    have : j < l.length := by have := hn; simp at this; omega
    simp [listedN, this, hj]
  intro c
  induction c with
  | zero =>
    intro listed a w hc inv hag hw
    have h1 := leftN_zero hc
    have he := listed_eq inv.size h1 inv.tail
    subst he
    have hau := hag.unique hf
    subst hau
    have hdl : (l.drop n).length = l.toArray.size - n := by simp
    rw [Nat.zero_add, ← hdl]
    refine wpAny_of_seq (l.drop n) n _ a w (fun j => by simp [List.getElem?_drop]) ?_ (tail w (by rw [h1 k hk] at hw; exact hw))
    rw [hdl]; exact hseq
  | succ c ih =>
    intro listed a w hc inv hag hw
    obtain ⟨i0, g1, g2, g3⟩ := leftN_pos (n := n) (listed := listed) (by omega)
    have hin : i0 < listed.size := by rw [inv.size]; omega
    obtain ⟨o0, ho0, hon, _, _⟩ := headB_spec hhead g1
    have hready : i0 ∈ Region.ready .any l.toArray listed := mem_ready.2 ⟨getD_in hin g2, o0, ho0, fun e he hb => g3 _ (hon e he hb)⟩
    rw [show c + 1 + (l.toArray.size - n) = (c + (l.toArray.size - n)) + 1 by omega]
    refine ⟨fun h => (by rw [h] at hready; cases hready), fun i hi => ?_⟩
    have hilt : i < n := by
      rcases Nat.lt_or_ge i n with h | h
      · exact h
      · exfalso
        obtain ⟨hil, oi, hoi, _⟩ := mem_ready.1 hi
        have hisz : i < l.toArray.size := (Array.getElem?_eq_some_iff.1 hoi).1
        rcases hsink with hsz | ⟨hs, hch⟩
        · omega
        · exact tail_waits hs hch (by omega) inv _ i0 rfl g1 (getD_in hin g2) i h hi
    obtain ⟨hil, oi, hoi, hall'⟩ := mem_ready.1 hi
    obtain ⟨o, ho, _, hlk, hdst⟩ := headB_spec hhead hilt
    have hoo : oi = o := by rw [ho] at hoi; simpa using hoi.symm
    subst hoo
    have hil2 : i < listed.size := by rw [inv.size]; exact (Array.getElem?_eq_some_iff.1 ho).1
    have hlook : ∀ t ∈ oi.looksAt l.toArray, a.tmps[t]? = full.tmps[t]? := fun t ht => frame_looks hag hf hall fun j hj hd => (by
      have hwf := hlk t ht j hj hd
      obtain ⟨oj, hoj, e, he, hb, hon'⟩ := Region.waitsFor_spec hwf
      have : oj = oi := by rw [ho] at hoj; simpa using hoj.symm
      subst this
      have := hall' e he hb
      rw [hon'] at this
      exact this)
    have hleft := leftN_set (n := n) hilt hil2 (getD_both hil)
    by_cases hik : i = k
    · subst hik
      rw [getD_both hil] at hw
      obtain ⟨o1, o2⟩ := once oi w (by simpa using ho) hw
      refine wpOp_stepR ho (Region.noSelect_spec hsel i oi · · ho) hlook ⟨fun _ => o2, fun hc => (by rw [o1] at hc; cases hc)⟩ (fun u w' hw' => ?_)
      obtain ⟨rfl, hw'⟩ := hw'
      refine ih _ _ w' (by omega) (inv.set hi hilt) (hag.put ho hil2 hdst) ?_
      rw [show (listed.setIfInBounds i true).getD i false = true by simp [hil2]]
      exact hw'
    · refine wpOp_step ho (Region.noSelect_spec hsel i oi · · ho) hlook (step i oi _ hilt hik (by simpa using ho)) hw (fun w' hw' => ?_)
      refine ih _ _ w' (by omega) (inv.set hi hilt) (hag.put ho hil2 hdst) ?_
      rw [getD_set_ne false hik]
      exact hw'


def StepsBut (P : Program) (ops : Array Oper) (full : Act) (Inv : World → Prop) : Nat → List Oper → List Value → Prop
  | 0, _ :: os, _ :: vs => StepsOk P ops full Inv os vs
  | k + 1, o :: os, v :: vs => StepOk P ops full Inv o v ∧ StepsBut P ops full Inv k os vs
  | _, _, _ => True
theorem StepsBut.get {full : Act} {Inv : World → Prop} : ∀ {k : Nat} {os : List Oper} {vs : List Value}, StepsBut P ops full Inv k os vs → os.length = vs.length → ∀ i o, i ≠ k → os[i]? = some o → StepOk P ops full Inv o (vs.getD i undef)
  | _, [], _, _, _, i, o, _, h => by simp at h
  | _, o :: os, [], _, hl, i, o', _, h => by simp at hl
  | 0, o :: os, v :: vs, hs, hl, 0, o', hne, h => absurd rfl hne
  | 0, o :: os, v :: vs, hs, hl, i + 1, o', _, h => by
    simp only [List.getElem?_cons_succ] at h
    have := StepsOk.get hs (by simpa using hl) i o' h
    simpa using this
  | k + 1, o :: os, v :: vs, hs, hl, 0, o', _, h => by simp at h; subst h; exact hs.1
  | k + 1, o :: os, v :: vs, hs, hl, i + 1, o', hne, h => by
    simp only [List.getElem?_cons_succ] at h
    have := StepsBut.get hs.2 (by simpa using hl) i o' (by omega) h
    simpa using this
theorem stepsBut_cons {full : Act} {Inv : World → Prop} {k : Nat} {o : Oper} {os : List Oper} {v : Value} {vs : List Value} (h : StepOk P ops full Inv o v) (h' : StepsBut P ops full Inv k os vs) : StepsBut P ops full Inv (k + 1) (o :: os) (v :: vs) := ⟨h, h'⟩
theorem stepsBut_here {full : Act} {Inv : World → Prop} {o : Oper} {os : List Oper} {v : Value} {vs : List Value} (h : StepsOk P ops full Inv os vs) : StepsBut P ops full Inv 0 (o :: os) (v :: vs) := h

/-- As wp_region_inv, and the k-th operation alone turns what holds. -/
theorem wp_region_one {id : Nat} {a : Act} {w : World} {l : List Oper} (n k : Nat) (vs : List Value) (full : Act) (Inv : Bool → World → Prop) (hm : P.follows .mixedOrders = true) (hB : invB l.toArray n = true) (hv : vs.length = n)
    (hfull : putAll a (l.take n) vs = full) (hk : k < n) (h0 : Inv false w.drew) (steps : ∀ b, StepsBut P l.toArray full (Inv b) k (l.take n) vs) (once : ∀ o w, l[k]? = some o → Inv false w → Region.wanted o (yielded l.toArray full.tmps) = true ∧ StpR P (fun u w' => u = vs.getD k undef ∧ Inv true w') ((execOp full.eval o).run P w)) (tail : ∀ w', Inv true w' → wpList P l.toArray Q (l.drop n) full w') : (Code.region id l.toArray true).wp P Q a w := by
  have hB' := hB
  simp only [invB, Bool.and_eq_true, Bool.or_eq_true, decide_eq_true_eq] at hB'
  obtain ⟨⟨⟨⟨hsel, hn⟩, hsink⟩, hhead⟩, hseq⟩ := hB'
  have hn' : n ≤ l.length := by simpa using hn
  have hag := putAll_agree (a0 := a) (vs := vs) hhead hn' hv
  rw [hfull] at hag
  refine wp_region_any hm ?_
  have inv0 : HeadInv .any l.toArray n (Array.replicate l.toArray.size false) :=
    ⟨by simp, fun j oj _ hl => (by rw [getD_replicate_false] at hl; cases hl), fun t _ ht => getD_in (by simpa using ht) (getD_replicate_false _ _)⟩
  have hl0 : leftN n (Array.replicate l.toArray.size false) = n := by
    unfold leftN
    rw [List.filter_eq_self.2 (fun j _ => by rw [getD_replicate_false]; rfl), List.length_range]
  have := any_one (P := P) (Q := Q) (Inv := Inv) k hB hag (fun i o b hi hne ho => StepsBut.get (steps b) (by rw [List.length_take, hv]; omega) i o hne (by rw [List.getElem?_take, if_pos hi]; exact ho)) once hk tail n _ a _ hl0 inv0 (Agree.start _ _ _ _ _) (by rw [getD_replicate_false]; exact h0)
  rwa [show n + (l.toArray.size - n) = l.toArray.size by omega] at this

end
end Go.Cib
/-
  Small laws, for any program: a region whose order is open, walked once in the order of the text, in a class of worlds: loads of whole arrays, compares of them, calls that hand back one value in every world of the class.
-/
namespace Go.Cib
open Go Go.RowKit
section
variable {P : Program} {ops : Array Oper} {C : World → Prop} {Qs : Act → Prop} {rest : List Oper} {a : Act} {dst : Option Tmp} {ty : TypeId} {pos : String} {af : Array Edge} {x y : Operand} {gd : Option (Nat × Bool)}
theorem wq_value {o : Oper} (hw : Region.wanted o (yielded ops a.tmps) = true) {v : Value} (hrun : ∀ w, C w → (execOp a.eval o).run P w = .ok (.value v) w) (h : wpQuiet P ops C Qs rest (a.put o.dst v)) : wpQuiet P ops C Qs (o :: rest) a :=
  wpQuiet_step fun K hK => by
    rw [if_pos hw]
    exact ⟨v, fun w hc => by unfold Oper.quietAt; rw [hrun w hc]; exact ⟨rfl, rfl⟩, hK _ h⟩
theorem wq_call {o : Oper} (hw : Region.wanted o (yielded ops a.tmps) = true) {f : FuncId} {args : Array Value} {v : Value} (hrun : ∀ w, (execOp a.eval o).run P w = .ok (.enter f args) w) (hc : ∀ w, C w → Calls P f args w (fun e w'' => e = .returned v ∧ C w'')) (h : wpQuiet P ops C Qs rest (a.put o.dst v)) : wpQuiet P ops C Qs (o :: rest) a :=
  wpQuiet_step fun K hK => by
    rw [if_pos hw]
    exact ⟨v, fun w h2 => by unfold Oper.quietAt; rw [hrun w]; exact ⟨rfl, hc w h2⟩, hK _ h⟩
/-- A call of a function of the program's own: it hands back one value in every world of the class. -/
theorem wq_fn {f : FuncId} (hcf : ∀ (args : Array Value) (w : World), (callFunc f args).run P w = .ok (.enter f args) w) {ar : Array Operand} {ts : Array TypeId} {args : Array Value} {v : Value}
    (hw : Region.wanted ⟨dst, .call { callee := .value (.func f), args := ar, argTypes := ts }, ty, pos, af, gd⟩ (yielded ops a.tmps) = true) (ha : ar.toList.map a.eval = args.toList)
    (hc : ∀ w, C w → Calls P f args w (fun e w'' => e = .returned v ∧ C w'')) (h : wpQuiet P ops C Qs rest (a.put dst v)) :
    wpQuiet P ops C Qs (⟨dst, .call { callee := .value (.func f), args := ar, argTypes := ts }, ty, pos, af, gd⟩ :: rest) a :=
  wq_call hw (fun w => by rw [execOp_call_go, show ar.map a.eval = args from Array.toList_inj.1 (by rw [Array.toList_map]; exact ha)]; simpa using hcf args w) hc h
theorem wq_load_var {n : Nat} {T : TypeId} (hT : BytesT P T n) {b : Nat} {s : Arr n} {e : TypeId} {fr : Nat × Nat} (hb : ∀ w, C w → w.heap[b]? = some (.cells (secA s) e fr)) (hw : Region.wanted ⟨dst, .load T x, ty, pos, af, gd⟩ (yielded ops a.tmps) = true) (hx : a.eval x = .pointer (some ⟨b, 0, none⟩))
    (h : wpQuiet P ops C Qs rest (a.put dst (.agg (secA s)))) : wpQuiet P ops C Qs (⟨dst, .load T x, ty, pos, af, gd⟩ :: rest) a :=
  wq_value hw (fun w hc => exec_load_var hT rfl (hb w hc) hx) h
theorem wq_load_in {n : Nat} {T : TypeId} (hT : BytesT P T n) {b i : Nat} {ls : List (Arr n)} {s : Arr n} (hb : ∀ w, C w → SecsIn w b ls) (hi : ls[i]? = some s) (hw : Region.wanted ⟨dst, .load T x, ty, pos, af, gd⟩ (yielded ops a.tmps) = true) (hx : a.eval x = .pointer (some ⟨b, i * n, none⟩))
    (h : wpQuiet P ops C Qs rest (a.put dst (.agg (secA s)))) : wpQuiet P ops C Qs (⟨dst, .load T x, ty, pos, af, gd⟩ :: rest) a :=
  wq_value hw (fun w hc => exec_load_in hT rfl (hb w hc) hi hx) h
theorem wq_neq_arr {n : Nat} {T : TypeId} (hT : BytesT P T n) {yt : TypeId} {s t : Arr n} (hw : Region.wanted ⟨dst, .binOp .neq T x y yt, ty, pos, af, gd⟩ (yielded ops a.tmps) = true) (hx : a.eval x = .agg (secA s)) (hy : a.eval y = .agg (secA t))
    (h : wpQuiet P ops C Qs rest (a.put dst (.bool (!decide (s = t))))) : wpQuiet P ops C Qs (⟨dst, .binOp .neq T x y yt, ty, pos, af, gd⟩ :: rest) a := by
  rw [← decide_arr] at h
  exact wq_value hw (fun w _ => exec_neq_bytes hT rfl hx hy s.h t.h) h
theorem wq_eql_arr {n : Nat} {T : TypeId} (hT : BytesT P T n) {yt : TypeId} {s t : Arr n} (hw : Region.wanted ⟨dst, .binOp .eql T x y yt, ty, pos, af, gd⟩ (yielded ops a.tmps) = true) (hx : a.eval x = .agg (secA s)) (hy : a.eval y = .agg (secA t))
    (h : wpQuiet P ops C Qs rest (a.put dst (.bool (decide (s = t))))) : wpQuiet P ops C Qs (⟨dst, .binOp .eql T x y yt, ty, pos, af, gd⟩ :: rest) a := by
  rw [← decide_arr] at h
  exact wq_value hw (fun w _ => exec_eql_bytes hT rfl hx hy s.h t.h) h
/-- One cell is read. -/
theorem run_loadVar_cell {T : TypeId} (hT : (P.underlying T).map (fun d => match d with | .struct _ | .array _ _ => true | _ => false) = some false) {w : World} {p : Addr} {v : Value} (hc : w.cell? p = some v) : (loadVar T p).run P w = .ok v w := by
  obtain ⟨d, hd, ha⟩ := Option.map_eq_some_iff.1 hT
  have h1 : (isAgg T).run P w = .ok false w := by
    unfold isAgg
    rw [Sem.run_bind, run_underlying hd w]
    cases d <;> simp_all
  simp [loadVar, Sem.run_bind, h1, hc]
theorem wq_load_cell {T : TypeId} (hT : (P.underlying T).map (fun d => match d with | .struct _ | .array _ _ => true | _ => false) = some false) {p : Addr} {v : Value} (hb : ∀ w, C w → w.cell? p = some v) (hw : Region.wanted ⟨dst, .load T x, ty, pos, af, gd⟩ (yielded ops a.tmps) = true) (hx : a.eval x = .pointer (some p))
    (h : wpQuiet P ops C Qs rest (a.put dst v)) : wpQuiet P ops C Qs (⟨dst, .load T x, ty, pos, af, gd⟩ :: rest) a :=
  wq_value hw (fun w hc => by unfold execOp; simp [hx, Instr.loadAt, Instr.sureAddr, run_loadVar_cell hT (hb w hc)]) h
end
section
variable {P : Program} {ops : Array Oper} {n : Nat} {Q : Exit → Act → World → Prop} {C : World → Prop}
theorem wanted_looks {o : Oper} {a full : Act} (hlook : ∀ t ∈ o.looksAt ops, a.tmps[t]? = full.tmps[t]?) : Region.wanted o (yielded ops a.tmps) = Region.wanted o (yielded ops full.tmps) := by
  unfold Region.wanted
  cases hg : o.guard with
  | none => rfl
  | some gb =>
    obtain ⟨g, b⟩ := gb
    simp only [yielded]
    cases hd : (ops[g]?).bind (·.dst) with
    | none => rfl
    | some d =>
      simp only [Option.bind_some]
      rw [hlook d (looks_guard hg hd)]
theorem stepOk_of_quiet {o : Oper} {a full : Act} {v : Value} (hs : ∀ cs b, o.op ≠ .select cs b) (hlook : ∀ t ∈ o.looksAt ops, a.tmps[t]? = full.tmps[t]?)
    (h : (Region.wanted o (yielded ops a.tmps) = true ∧ ∀ w, C w → o.quietAt P a C w v) ∨ (Region.wanted o (yielded ops a.tmps) = false ∧ v = undef)) : StepOk P ops full C o v := by
  have hev : execOp a.eval o = execOp full.eval o := execOp_congr o hs fun x hx => eval_eq fun t ht => by
    subst ht
    exact getD_of_get (hlook t (looks_operand hx))
  have hwa := wanted_looks hlook
  rw [hwa] at h
  rcases h with ⟨h1, h2⟩ | ⟨h1, h2⟩
  · refine .inr ⟨h1, fun w hw => ?_⟩
    have h3 := h2 w hw
    unfold Oper.quietAt at h3
    rw [hev] at h3
    generalize (execOp full.eval o).run P w = r at *
    cases r with
    | ok nx w' =>
      cases nx <;> simp only [Oper.quietUpon] at h3 <;> try exact h3.elim
      case value u => obtain ⟨rfl, rfl⟩ := h3; exact ⟨rfl, hw⟩
      case skip => obtain ⟨rfl, rfl⟩ := h3; exact ⟨rfl, hw⟩
      case enter f args => obtain ⟨rfl, h4⟩ := h3; exact h4
    | halt x w' => exact h3.elim
  · exact .inl ⟨h1, h2⟩
theorem listedN_succ (m k : Nat) : (listedN m k).setIfInBounds k true = listedN m (k + 1) := by
  apply Array.ext
  · simp [listedN]
  · intro j h1 h2
    simp only [listedN, List.setIfInBounds_toArray, List.getElem_toArray, List.getElem_set, List.getElem_map, List.getElem_range]
    by_cases e : k = j
    · subst e; simp
    · rw [if_neg e]; simp; omega
theorem listedN_zero (m : Nat) : Array.replicate m false = listedN m 0 := by
  apply Array.ext
  · simp [listedN]
  · intro j h1 h2; simp [listedN]
theorem quiet_steps {Qs : Act → Prop} {a0 : Act} {l : List Oper} (hsel : Region.noSelect l.toArray = true) (hhead : headB .any l.toArray n = true) (hn : n ≤ l.length) : ∀ (m k : Nat) (vs0 : Nat → Value) (a : Act), k + m = n →
    Agree l.toArray n vs0 a0 (listedN l.toArray.size k) a → wpQuiet P l.toArray C Qs ((l.take n).drop k) a →
    ∃ (vs : Nat → Value) (full : Act), (∀ j, j < k → vs j = vs0 j) ∧ Agree l.toArray n vs a0 (listedN l.toArray.size n) full ∧ Qs full ∧ ∀ i, k ≤ i → i < n → ∀ o, l[i]? = some o → StepOk P l.toArray full C o (vs i) := by
  have hall : ∀ j, j < n → (listedN l.toArray.size n).getD j false = true := by
    intro j hj
    have : j < l.length := by omega
    simp [listedN, this, hj]
  intro m
  induction m with
  | zero =>
    intro k vs0 a hk ha hq
    have : k = n := by omega
    subst this
    have d2 : (l.take k).drop k = [] := List.drop_of_length_le (by rw [List.length_take]; omega)
    rw [d2] at hq
    exact ⟨vs0, a, fun _ _ => rfl, ha, hq, fun i h1 h2 => by omega⟩
  | succ m ih =>
    intro k vs0 a hk ha hq
    obtain ⟨o, ho, haft, hlk, hd⟩ := headB_spec hhead (show k < n by omega)
    have ho' : l[k]? = some o := by simpa using ho
    have hkl : k < l.length := by omega
    have e1 : (l.take n).drop k = o :: (l.take n).drop (k + 1) := by
      rw [List.drop_eq_getElem_cons (by rw [List.length_take]; omega)]
      congr 1
      rw [List.getElem_take]
      exact (List.getElem?_eq_some_iff.1 ho').2
    rw [e1] at hq
    have hcase : ∃ v, ((Region.wanted o (yielded l.toArray a.tmps) = true ∧ ∀ w, C w → o.quietAt P a C w v) ∨ (Region.wanted o (yielded l.toArray a.tmps) = false ∧ v = undef)) ∧ wpQuiet P l.toArray C Qs ((l.take n).drop (k + 1)) (a.put o.dst v) := by
      unfold wpQuiet at hq
      split at hq
      · rename_i hw
        obtain ⟨v, h1, h2⟩ := hq
        exact ⟨v, .inl ⟨hw, h1⟩, h2⟩
      · rename_i hw
        exact ⟨undef, .inr ⟨by simpa using hw, rfl⟩, hq⟩
    obtain ⟨v, hv, hq'⟩ := hcase
    have hap := (ha.congr (vs' := updV vs0 k v) fun j hj => by
      have : j ≠ k := by
        rintro rfl
        have hj' : (listedN l.toArray.size j).getD j false = false := by simp [listedN, hkl]
        rw [hj'] at hj; cases hj
      simp [updV, this]).put ho (by simp [listedN]; exact hkl) hd
    rw [listedN_succ, show updV vs0 k v k = v by simp [updV]] at hap
    obtain ⟨vs, full, g1, g2, g3, g4⟩ := ih (k + 1) _ _ (by omega) hap hq'
    have hvk : vs k = v := by rw [g1 k (by omega)]; simp [updV]
    refine ⟨vs, full, fun j hj => by rw [g1 j (by omega)]; simp [updV]; omega, g2, g3, fun i h1 h2 o' ho2 => ?_⟩
    by_cases e : i = k
    · subst e
      have : o' = o := by rw [ho'] at ho2; exact (Option.some.inj ho2).symm
      subst this
      rw [hvk]
      refine stepOk_of_quiet (Region.noSelect_spec hsel i o' · · ho) (fun t ht => ?_) hv
      have ha' : Agree l.toArray n vs a0 (listedN l.toArray.size i) a := ha.congr fun j hj => by
        have hji : j < i := by
          rcases Nat.lt_or_ge j i with h | h
          · exact h
          · exfalso
            have hj' : (listedN l.toArray.size i).getD j false = false := by
              rcases Nat.lt_or_ge j l.length with h3 | h3
              · simp [listedN, h3]; omega
              · simp [listedN, h3]
            rw [hj'] at hj; cases hj
        rw [g1 j (by omega)]
        simp only [updV]
        rw [if_neg (by omega)]
      refine frame_looks ha' g2 hall fun j hj hdj => ?_
      obtain ⟨oj, hoj, e, he, hb, hon⟩ := Region.waitsFor_spec (hlk t ht j hj hdj)
      have : oj = o' := by rw [ho] at hoj; exact (Option.some.inj hoj).symm
      subst this
      have hlt := haft e he hb
      rw [hon] at hlt
      have hjl : j < l.length := by omega
      simp [listedN, hjl, hlt]
    · exact g4 i (by omega) h2 o' ho2
/-- The law: the first n operations are walked once, in the order of the text, in a class of worlds; whatever order they are carried out in, one frame comes of it; the others follow one behind the other. -/
theorem wp_region_walk {id : Nat} {a : Act} {w : World} {l : List Oper} (n : Nat) (hm : P.follows .mixedOrders = true) (hB : invB l.toArray n = true) (h0 : C w.drew)
    (h : wpQuiet P l.toArray C (fun full => ∀ w', C w' → wpList P l.toArray Q (l.drop n) full w') (l.take n) a) : (Code.region id l.toArray true).wp P Q a w := by
  have hB' := hB
  simp only [invB, Bool.and_eq_true, Bool.or_eq_true, decide_eq_true_eq] at hB'
  obtain ⟨⟨⟨⟨hsel, hn⟩, hsink⟩, hhead⟩, hseq⟩ := hB'
  have hn' : n ≤ l.length := by simpa using hn
  have hst : Agree l.toArray n (fun _ => undef) a (listedN l.toArray.size 0) a := by
    rw [← listedN_zero]; exact Agree.start _ _ _ _ _
  obtain ⟨vs, full, _, g2, g3, g4⟩ := quiet_steps hsel hhead hn' n 0 _ a (by omega) hst (by simpa using h)
  refine wp_region_any hm ?_
  have inv0 : HeadInv .any l.toArray n (Array.replicate l.toArray.size false) :=
    ⟨by simp, fun j oj _ hl => (by rw [getD_replicate_false] at hl; cases hl), fun t _ ht => getD_in (by simpa using ht) (getD_replicate_false _ _)⟩
  have hl0 : leftN n (Array.replicate l.toArray.size false) = n := by
    unfold leftN
    rw [List.filter_eq_self.2 (fun j _ => by rw [getD_replicate_false]; rfl), List.length_range]
  have := any_inv (P := P) (Q := Q) (Inv := C) hB g2 (fun i o hi ho => g4 i (by omega) hi o ho) g3 n _ a _ hl0 inv0 (Agree.start _ _ _ _ _) h0
  rwa [show n + (l.toArray.size - n) = l.toArray.size by omega] at this
end
theorem tch_drewN (w : World) (n : Nat) : Tch [] w (w.drewN n) := ⟨rfl, rfl, rfl, Nat.le_refl _, fun _ _ _ => rfl⟩
theorem drewN_heap {w : World} {b : Nat} {o : Obj} (h : w.heap[b]? = some o) : ∀ w', (∃ n, w' = w.drewN n) → w'.heap[b]? = some o := fun _ ⟨_, e⟩ => by subst e; exact h
theorem drewN_secs {w : World} {m : Nat} {b : Nat} {ls : List (Arr m)} (h : SecsIn w b ls) : ∀ w', (∃ n, w' = w.drewN n) → SecsIn w' b ls := fun _ ⟨k, e⟩ => by subst e; exact h.touch (tch_drewN w k) (by simp)
end Go.Cib
/-
  Small laws, for any program: a region whose order is open, of which some operations make memory: what each gives is known by what holds of it, not by its address; behind a gate all is settled and is walked once.
-/
namespace Go.Cib
open Go

/-- All operations from n on wait for number n - 1, or for one behind it that does; and it waits for all ahead of it. -/
def gateB (ops : Array Oper) (n : Nat) : Bool := Region.noSelect ops && decide (1 ≤ n ∧ n ≤ ops.size) && ((List.range (n - 1)).all fun i => (List.range n).any fun j => decide (i < j) && Region.waitsFor .any ops j i) &&
  ((List.range ops.size).all fun t => decide (t < n) || Region.waitsFor .any ops t (n - 1) || ((List.range ops.size).any fun s => decide (n ≤ s) && Region.waitsFor .any ops t s)) && headB .any ops n

section
variable {P : Program} {ops : Array Oper} {n : Nat} {Q : Exit → Act → World → Prop}

theorem gate_waits {listed : Array Bool} (hG : gateB ops n = true) (inv : HeadInv .any ops n listed) {i : Nat} (hi : i < n) (hu : listed.getD i false = false) {t : Nat} (ht : n ≤ t) : t ∉ Region.ready .any ops listed := by
  simp only [gateB, Bool.and_eq_true, decide_eq_true_eq] at hG
  obtain ⟨⟨⟨⟨_, hn⟩, hsink⟩, hall⟩, _⟩ := hG
  have hgate : listed.getD (n - 1) false = false := by
    have key : ∀ d i, n - 1 - i = d → i < n → listed.getD i false = false → listed.getD (n - 1) false = false := by
      intro d
      induction d using Nat.strongRecOn with
      | _ d ih =>
        intro i hd hi hu
        by_cases hin : i = n - 1
        · rw [← hin]; exact hu
        · have h1 := List.all_eq_true.1 hsink i (List.mem_range.2 (by omega))
          obtain ⟨j, hj, hj2⟩ := List.any_eq_true.1 h1
          simp only [Bool.and_eq_true, decide_eq_true_eq] at hj2
          have hjn := List.mem_range.1 hj
          obtain ⟨oj, hoj, e, he, hb, hon⟩ := Region.waitsFor_spec hj2.2
          cases hl : listed.getD j false with
          | true =>
            have h2 := inv.closed j oj hoj hl e he hb
            rw [hon, hu] at h2
            cases h2
          | false => exact ih (n - 1 - j) (by omega) j rfl hjn hl
    exact key _ i rfl hi hu
  intro hr
  obtain ⟨_, ot, hot, hdone⟩ := mem_ready.1 hr
  have htlt : t < ops.size := (Array.getElem?_eq_some_iff.1 hot).1
  have h1 := List.all_eq_true.1 hall t (List.mem_range.2 htlt)
  simp only [Bool.or_eq_true, decide_eq_true_eq] at h1
  rcases h1 with (h1 | h1) | h1
  · omega
  · obtain ⟨o', ho', e, he, hb, hon⟩ := Region.waitsFor_spec h1
    have : o' = ot := Option.some.inj (ho'.symm.trans hot)
    subst this
    have h2 := hdone e he hb
    rw [hon, hgate] at h2
    cases h2
  · obtain ⟨s, hs, hs2⟩ := List.any_eq_true.1 h1
    simp only [Bool.and_eq_true, decide_eq_true_eq] at hs2
    obtain ⟨o', ho', e, he, hb, hon⟩ := Region.waitsFor_spec hs2.2
    have : o' = ot := Option.some.inj (ho'.symm.trans hot)
    subst this
    have h2 := hdone e he hb
    have h3 := inv.tail s hs2.1 (List.mem_range.1 hs)
    rw [hon, getD_both h3] at h2
    cases h2

theorem any_rel_gate {Inv : Array Bool → (Nat → Value) → World → Prop} {a0 : Act} {l : List Oper} (hG : gateB l.toArray n = true)
    (step : ∀ i o, i < n → l[i]? = some o → ∀ (listed : Array Bool) (vs : Nat → Value) (w : World), Inv listed vs w → i < listed.size → listed.getD i false = false → (∀ j, Region.waitsFor .any l.toArray i j = true → listed.getD j false = true) →
      (Region.wanted o (yielded l.toArray (fullOf a0 l n vs).tmps) = true → StpR P (fun u w' => Inv (listed.setIfInBounds i true) (updV vs i u) w') ((execOp (fullOf a0 l n vs).eval o).run P w)) ∧
      (Region.wanted o (yielded l.toArray (fullOf a0 l n vs).tmps) = false → Inv (listed.setIfInBounds i true) (updV vs i undef) w))
    (tail : ∀ vs w', HeadInv .any l.toArray n (listedN l.toArray.size n) → Inv (listedN l.toArray.size n) vs w' → wpAny P .any l.toArray Q (l.toArray.size - n) (listedN l.toArray.size n) (fullOf a0 l n vs) w') :
    ∀ (c : Nat) (listed : Array Bool) (vs : Nat → Value) (a : Act) (w : World), leftN n listed = c → HeadInv .any l.toArray n listed → Agree l.toArray n vs a0 listed a → Inv listed vs w →
      wpAny P .any l.toArray Q (c + (l.toArray.size - n)) listed a w := by
  have hG' := hG
  simp only [gateB, Bool.and_eq_true, decide_eq_true_eq] at hG'
  obtain ⟨⟨⟨⟨hsel, hn⟩, hsink⟩, hall'⟩, hhead⟩ := hG'
  have hn' : n ≤ l.length := by simp at hn; omega
  have hall : ∀ j, j < n → (listedN l.toArray.size n).getD j false = true := by
    intro j hj
    have : j < l.length := by omega
    simp [listedN, this, hj]
  intro c
  induction c with
  | zero =>
    intro listed vs a w hc inv hag hw
    have h1 := leftN_zero hc
    have he := listed_eq inv.size h1 inv.tail
    subst he
    have hau := hag.unique (putAll_agreeF hhead hn')
    subst hau
    rw [Nat.zero_add]
    exact tail vs w inv hw
  | succ c ih =>
    intro listed vs a w hc inv hag hw
    obtain ⟨i0, g1, g2, g3⟩ := leftN_pos (n := n) (listed := listed) (by omega)
    have hin : i0 < listed.size := by rw [inv.size]; omega
    obtain ⟨o0, ho0, hon, _, _⟩ := headB_spec hhead g1
    have hready : i0 ∈ Region.ready .any l.toArray listed := mem_ready.2 ⟨getD_in hin g2, o0, ho0, fun e he hb => g3 _ (hon e he hb)⟩
    rw [show c + 1 + (l.toArray.size - n) = (c + (l.toArray.size - n)) + 1 by omega]
    refine ⟨fun h => (by rw [h] at hready; cases hready), fun i hi => ?_⟩
    have hilt : i < n := by
      rcases Nat.lt_or_ge i n with h | h
      · exact h
      · exfalso
        obtain ⟨hil, oi, hoi, _⟩ := mem_ready.1 hi
        have hisz : i < l.toArray.size := (Array.getElem?_eq_some_iff.1 hoi).1
        exact gate_waits hG inv g1 g2 h hi
    obtain ⟨hil, oi, hoi, hall'⟩ := mem_ready.1 hi
    obtain ⟨o, ho, _, hlk, hdst⟩ := headB_spec hhead hilt
    have hoo : oi = o := by rw [ho] at hoi; simpa using hoi.symm
    subst hoo
    have hil2 : i < listed.size := by rw [inv.size]; exact (Array.getElem?_eq_some_iff.1 ho).1
    have hwf : ∀ j, Region.waitsFor .any l.toArray i j = true → listed.getD j false = true := by
      intro j hj
      obtain ⟨oj, hoj, e, he, hb, hon'⟩ := Region.waitsFor_spec hj
      have : oj = oi := by rw [ho] at hoj; simpa using hoj.symm
      subst this
      have := hall' e he hb
      rw [hon'] at this
      exact this
    refine wpOp_stepR ho (Region.noSelect_spec hsel i oi · · ho) (fun t ht => frame_looks hag (putAll_agreeF hhead hn') hall fun j hj hd => hwf j (hlk t ht j hj hd)) (step i oi hilt (by simpa using ho) listed vs w hw hil2 (getD_both hil) hwf) (fun u w' hw' => ?_)
    have hag2 : Agree l.toArray n (updV vs i u) a0 listed a := hag.congr fun j hj => by
      have : j ≠ i := by rintro rfl; rw [getD_both hil] at hj; cases hj
      simp [updV, this]
    have hp := hag2.put ho hil2 hdst
    rw [show updV vs i u i = u by simp [updV]] at hp
    refine ih _ _ _ w' ?_ (inv.set hi hilt) hp hw'
    have := leftN_set (n := n) hilt hil2 (getD_both hil)
    omega


theorem StpR.mono {K K' : Value → World → Prop} {r : Result Next} (h : StpR P K r) (hk : ∀ u w, K u w → K' u w) : StpR P K' r := by
  cases r with
  | ok nx w =>
    cases nx <;> simp only [StpR] at h ⊢ <;> try exact h.elim
    case value u => exact hk _ _ h
    case skip => exact hk _ _ h
    case enter f args => exact Calls.mono h fun e w' ⟨u, he, hu⟩ => ⟨u, he, hk _ _ hu⟩
  | halt x w => exact h.elim

/-- The frame behind the first part, as one in which the first n1 are done. -/
theorem agree_part {a : Act} {l : List Oper} {n1 n : Nat} {vs : Nat → Value} (hhead1 : headB .any l.toArray n1 = true) (hn1' : n1 ≤ l.length) (hnn : n1 ≤ n) (hn' : n ≤ l.length) : Agree l.toArray n vs a (listedN l.toArray.size n1) (fullOf a l n1 vs) := by
  have hst := putAll_agreeF (a0 := a) (vs := vs) hhead1 hn1'
  refine ⟨hst.defers, hst.size, fun t ht => ?_⟩
  rw [hst.tmps t ht]
  congr 1
  obtain ⟨m1, m2⟩ := headOf_more (ops := l.toArray) (t := t) hnn
  cases h1 : headOf l.toArray n1 t with
  | some j => rw [m1 j h1]
  | none =>
    cases h2 : headOf l.toArray n t with
    | none => rfl
    | some j =>
      simp only
      have hj := m2 h1 j h2
      have hjl : j < l.length := by have := (headOf_some h2).1; omega
      rw [if_neg]
      simp [listedN, hjl]
      omega

/-- The law. -/
theorem wp_region_vals {id : Nat} {a : Act} {w : World} {l : List Oper} (n1 n : Nat) (C : World → Prop) (K : Nat → Value → World → Prop) (hm : P.follows .mixedOrders = true) (hG : gateB l.toArray n1 = true) (hB : invB l.toArray n = true) (hnn : n1 ≤ n) (h0 : C w.drew)
    (mono : ∀ w w', C w → C w' → Tch [] w w' → ∀ i v, K i v w → K i v w')
    (step : ∀ i o, i < n1 → l[i]? = some o → ∀ (fu : Act) (w' : World), C w' → (∀ t, t < a.tmps.size → headOf l.toArray n1 t = none → fu.eval (.tmp t) = a.tmps.getD t undef) →
      (∀ j t, t < a.tmps.size → Region.waitsFor .any l.toArray i j = true → headOf l.toArray n1 t = some j → K j (fu.eval (.tmp t)) w') →
      (Region.wanted o (yielded l.toArray fu.tmps) = true → StpR P (fun u w'' => K i u w'' ∧ C w'' ∧ Tch [] w' w'') ((execOp fu.eval o).run P w')) ∧ (Region.wanted o (yielded l.toArray fu.tmps) = false → K i undef w'))
    (mid : ∀ vs w', C w' → (∀ j, j < n1 → K j (vs j) w') → ∃ C2 : World → Prop, C2 w' ∧ wpQuiet P l.toArray C2 (fun full => ∀ w'', C2 w'' → wpList P l.toArray Q (l.drop n) full w'') ((l.take n).drop n1) (fullOf a l n1 vs)) :
    (Code.region id l.toArray true).wp P Q a w := by
  have hG' := hG
  simp only [gateB, Bool.and_eq_true, decide_eq_true_eq] at hG'
  obtain ⟨⟨⟨⟨hsel, hn1⟩, _⟩, _⟩, hhead1⟩ := hG'
  have hB' := hB
  simp only [invB, Bool.and_eq_true, Bool.or_eq_true, decide_eq_true_eq] at hB'
  obtain ⟨⟨⟨⟨_, hn⟩, _⟩, hhead⟩, _⟩ := hB'
  have hn' : n ≤ l.length := by simpa using hn
  have hn1' : n1 ≤ l.length := by omega
  refine wp_region_any hm ?_
  have inv0 : HeadInv .any l.toArray n1 (Array.replicate l.toArray.size false) :=
    ⟨by simp, fun j oj _ hl => (by rw [getD_replicate_false] at hl; cases hl), fun t _ ht => getD_in (by simpa using ht) (getD_replicate_false _ _)⟩
  have hl0 : leftN n1 (Array.replicate l.toArray.size false) = n1 := by
    unfold leftN
    rw [List.filter_eq_self.2 (fun j _ => by rw [getD_replicate_false]; rfl), List.length_range]
  have hall1 : ∀ j, j < n1 → (listedN l.toArray.size n1).getD j false = true := by
    intro j hj
    have : j < l.length := by omega
    simp [listedN, this, hj]
  have := any_rel_gate (P := P) (Q := Q) (Inv := fun listed vs w => C w ∧ ∀ j, j < n1 → listed.getD j false = true → K j (vs j) w) (a0 := a) hG ?_ ?_ n1 _ (fun _ => undef) a _ hl0 inv0 (Agree.start _ _ _ _ _) ⟨h0, fun j _ hl => (by rw [getD_replicate_false] at hl; cases hl)⟩
  · rwa [show n1 + (l.toArray.size - n1) = l.toArray.size by omega] at this
  · intro i o hi ho listed vs w' hinv hsz hun hwait
    obtain ⟨hC, hK⟩ := hinv
    have hag := putAll_agreeF (a0 := a) (vs := vs) hhead1 hn1'
    obtain ⟨s1, s2⟩ := step i o hi ho (fullOf a l n1 vs) w' hC (fun t ht hh => by
      have h := hag.tmps t ht
      rw [hh] at h
      show (fullOf a l n1 vs).tmps.getD t undef = _
      rw [Array.getD_eq_getD_getElem?, h]; rfl) (fun j t ht hw hh => by
      have h := hag.tmps t ht
      rw [hh] at h
      have hj := (headOf_some hh).1
      simp only [hall1 j hj, if_true] at h
      show K j ((fullOf a l n1 vs).tmps.getD t undef) w'
      rw [Array.getD_eq_getD_getElem?, h]
      exact hK j hj (hwait j hw))
    refine ⟨fun hw => (s1 hw).mono ?_, fun hw => ⟨hC, fun j hj hl => ?_⟩⟩
    · rintro u w'' ⟨k1, k2, k3⟩
      refine ⟨k2, fun j hj hl => ?_⟩
      unfold updV
      by_cases e : j = i
      · subst e; rw [if_pos rfl]; exact k1
      · rw [if_neg e]; exact mono _ _ hC k2 k3 _ _ (hK j hj (by rwa [getD_set_ne false (Ne.symm e)] at hl))
    · unfold updV
      by_cases e : j = i
      · subst e; rw [if_pos rfl]; exact s2 hw
      · rw [if_neg e]; exact hK j hj (by rwa [getD_set_ne false (Ne.symm e)] at hl)
  · intro vs w' hinv hI
    obtain ⟨C2, hC2, hq⟩ := mid vs w' hI.1 fun j hj => hI.2 j hj (hall1 j hj)
    have hag := agree_part (a := a) (vs := vs) hhead1 hn1' hnn hn'
    obtain ⟨vs2, full, g1, g2, g3, g4⟩ := quiet_steps hsel hhead hn' (n - n1) n1 vs _ (by omega) hag hq
    have hag2 : Agree l.toArray n vs2 a (listedN l.toArray.size n1) (fullOf a l n1 vs) := hag.congr fun j hj => by
      rcases Nat.lt_or_ge j n1 with h | h
      · exact (g1 j h).symm
      · exfalso
        have hj' : (listedN l.toArray.size n1).getD j false = false := by
          rcases Nat.lt_or_ge j l.length with h3 | h3
          · simp [listedN, h3]; omega
          · simp [listedN, h3]
        rw [hj'] at hj; cases hj
    have hleft : leftN n (listedN l.toArray.size n1) = n - n1 := by
      unfold leftN
      obtain ⟨k, rfl⟩ := Nat.exists_eq_add_of_le hnn
      rw [List.range_add, List.filter_append, List.length_append]
      rw [List.filter_eq_nil_iff.2 (fun j hj => by
        have hj' := List.mem_range.1 hj
        have : j < l.length := by omega
        simp [listedN, this, hj'])]
      rw [List.filter_eq_self.2 (fun j hj => by
        obtain ⟨x, hx, rfl⟩ := List.mem_map.1 hj
        have hx' := List.mem_range.1 hx
        have : n1 + x < l.length := by omega
        simp [listedN, this])]
      simp
    have hh : HeadInv .any l.toArray n (listedN l.toArray.size n1) := ⟨hinv.size, hinv.closed, fun t h1 h2 => hinv.tail t (by omega) h2⟩
    have := any_inv_from (P := P) (Q := Q) (Inv := C2) n1 hB g2 (fun i o h1 h2 ho => g4 i h1 h2 o ho) g3 (n - n1) _ _ w' hleft (fun j hj => by
      have : j < l.length := by omega
      simp [listedN, this, hj]) hh hag2 hC2
    rwa [show n - n1 + (l.toArray.size - n) = l.toArray.size - n1 by omega] at this

/-- The same, ahead of operations that are forced one behind the other. -/
theorem wp_region_valt {id : Nat} {a : Act} {w : World} {l : List Oper} (n1 : Nat) (C : World → Prop) (K : Nat → Value → World → Prop) (hm : P.follows .mixedOrders = true) (hG : midB l.toArray n1 = true) (hB : invB l.toArray n1 = true) (h0 : C w.drew)
    (mono : ∀ w w', C w → C w' → Tch [] w w' → ∀ i v, K i v w → K i v w')
    (step : ∀ i o, i < n1 → l[i]? = some o → ∀ (fu : Act) (w' : World), C w' → (∀ t, t < a.tmps.size → headOf l.toArray n1 t = none → fu.eval (.tmp t) = a.tmps.getD t undef) →
      (∀ j t, t < a.tmps.size → Region.waitsFor .any l.toArray i j = true → headOf l.toArray n1 t = some j → K j (fu.eval (.tmp t)) w') →
      (Region.wanted o (yielded l.toArray fu.tmps) = true → StpR P (fun u w'' => K i u w'' ∧ C w'' ∧ Tch [] w' w'') ((execOp fu.eval o).run P w')) ∧ (Region.wanted o (yielded l.toArray fu.tmps) = false → K i undef w'))
    (tail : ∀ vs w', C w' → (∀ j, j < n1 → K j (vs j) w') → wpList P l.toArray Q (l.drop n1) (fullOf a l n1 vs) w') :
    (Code.region id l.toArray true).wp P Q a w := by
  have hB' := hB
  simp only [invB, Bool.and_eq_true, Bool.or_eq_true, decide_eq_true_eq] at hB'
  obtain ⟨⟨⟨⟨hsel, hn⟩, _⟩, hhead1⟩, hseq⟩ := hB'
  have hn1' : n1 ≤ l.length := by simpa using hn
  refine wp_region_any hm ?_
  have inv0 : HeadInv .any l.toArray n1 (Array.replicate l.toArray.size false) :=
    ⟨by simp, fun j oj _ hl => (by rw [getD_replicate_false] at hl; cases hl), fun t _ ht => getD_in (by simpa using ht) (getD_replicate_false _ _)⟩
  have hl0 : leftN n1 (Array.replicate l.toArray.size false) = n1 := by
    unfold leftN
    rw [List.filter_eq_self.2 (fun j _ => by rw [getD_replicate_false]; rfl), List.length_range]
  have hall1 : ∀ j, j < n1 → (listedN l.toArray.size n1).getD j false = true := by
    intro j hj
    have : j < l.length := by omega
    simp [listedN, this, hj]
  have := any_rel_mid (P := P) (Q := Q) (Inv := fun listed vs w => C w ∧ ∀ j, j < n1 → listed.getD j false = true → K j (vs j) w) (a0 := a) hG ?_ ?_ n1 _ (fun _ => undef) a _ hl0 inv0 (Agree.start _ _ _ _ _) ⟨h0, fun j _ hl => (by rw [getD_replicate_false] at hl; cases hl)⟩
  · rwa [show n1 + (l.toArray.size - n1) = l.toArray.size by omega] at this
  · intro i o hi ho listed vs w' hinv hsz hun hwait
    obtain ⟨hC, hK⟩ := hinv
    have hag := putAll_agreeF (a0 := a) (vs := vs) hhead1 hn1'
    obtain ⟨s1, s2⟩ := step i o hi ho (fullOf a l n1 vs) w' hC (fun t ht hh => by
      have h := hag.tmps t ht
      rw [hh] at h
      show (fullOf a l n1 vs).tmps.getD t undef = _
      rw [Array.getD_eq_getD_getElem?, h]; rfl) (fun j t ht hw hh => by
      have h := hag.tmps t ht
      rw [hh] at h
      have hj := (headOf_some hh).1
      simp only [hall1 j hj, if_true] at h
      show K j ((fullOf a l n1 vs).tmps.getD t undef) w'
      rw [Array.getD_eq_getD_getElem?, h]
      exact hK j hj (hwait j hw))
    refine ⟨fun hw => (s1 hw).mono ?_, fun hw => ⟨hC, fun j hj hl => ?_⟩⟩
    · rintro u w'' ⟨k1, k2, k3⟩
      refine ⟨k2, fun j hj hl => ?_⟩
      unfold updV
      by_cases e : j = i
      · subst e; rw [if_pos rfl]; exact k1
      · rw [if_neg e]; exact mono _ _ hC k2 k3 _ _ (hK j hj (by rwa [getD_set_ne false (Ne.symm e)] at hl))
    · unfold updV
      by_cases e : j = i
      · subst e; rw [if_pos rfl]; exact s2 hw
      · rw [if_neg e]; exact hK j hj (by rwa [getD_set_ne false (Ne.symm e)] at hl)
  · intro vs w' hinv hI
    have hdl : (l.drop n1).length = l.toArray.size - n1 := by simp
    rw [← hdl]
    refine wpAny_of_seq (l.drop n1) n1 _ _ w' (fun j => by simp [List.getElem?_drop]) ?_ (tail vs w' hI.1 fun j hj => hI.2 j hj (hall1 j hj))
    rw [hdl]; exact hseq
end
end Go.Cib
/-
  Small laws, for any program: slices of whole arrays: a literal of one, append of one, a store into a row's head, copy.
-/
namespace Go.Cib
open Go Go.RowKit
section
variable {n : Nat} {P : Program} {T : TypeId} {ops : Array Oper} {rest : List Oper} {a : Act} {w : World} {Q : Exit → Act → World → Prop} {dst : Option Tmp} {ty : TypeId} {pos : String} {af : Array Edge} {x y : Operand} {gd : Option (Nat × Bool)}

theorem foldl_set : ∀ (vs : List Value) (off : Nat) (c : Array Value), off + vs.length ≤ c.size → (vs.zipIdx).foldl (fun (cs : Array Value) (p : Value × Nat) => cs.setIfInBounds (off + p.2) p.1) c = (c.toList.take off ++ vs ++ c.toList.drop (off + vs.length)).toArray := by
  have key : ∀ (vs : List Value) (k off : Nat) (c : Array Value), off + k + vs.length ≤ c.size → (vs.zipIdx k).foldl (fun (cs : Array Value) (p : Value × Nat) => cs.setIfInBounds (off + p.2) p.1) c = (c.toList.take (off + k) ++ vs ++ c.toList.drop (off + k + vs.length)).toArray := by
    intro vs
    induction vs with
    | nil => intro k off c h; simp
    | cons v vs ih =>
      intro k off c h
      simp only [List.length_cons] at h
      rw [List.zipIdx_cons, List.foldl_cons, ih (k + 1) off _ (by simp; omega)]
      congr 1
      have e := list_seg_step c.toList (off + k) v vs (by simp; omega)
      simpa [Array.toList_setIfInBounds, Nat.add_assoc] using e
  intro vs off c h
  simpa using key vs 0 off c (by simpa using h)
theorem fill_one {m : Nat} {c v : Array Value} (hc : c.size = m) (hv : v.size = m) : Instr.fill (fun i => some (i * m, m)) c [(0, .agg v)] = some v := by
  unfold Instr.fill Instr.fill
  simp only [Nat.zero_mul, Value.cells, hv]
  rw [if_neg (by simp; omega)]
  congr 1
  have h := foldl_set v.toList 0 c (by simp; omega)
  simp only [List.take_zero, List.nil_append, Nat.zero_add] at h
  rw [List.drop_of_length_le (by simp; omega), List.append_nil, Array.toArray_toList] at h
  refine Eq.trans ?_ h
  rw [← Array.foldl_toList]
  simp
theorem exec_slice_one (hT : BytesT P T n) (hn : 0 < n) (hn2 : n ≤ 16777216) {S : TypeId} (hS : P.underlying S = some (.slice T)) {s : Arr n} {w : World} (hx : a.eval x = .agg (secA s)) :
    (execOp a.eval ⟨dst, .buildSlice S 1 #[(0, x)], ty, pos, af, gd⟩).run P w = .ok (.value (.slice (some ⟨w.heap.size, 0, none⟩) 1 1)) (w.alloc (.cells (secA s) T)) := by
  obtain ⟨i, h1, h2, h3, h4⟩ := hT.info
  have hz := hT.zero w
  have hf := fill_one (c := (Array.range (1 * n)).map (((Value.agg (bytesA (List.replicate n 0))).cells)[· % ((Value.agg (bytesA (List.replicate n 0))).cells).size]!)) (v := secA s) (m := n) (by simp) (size_secA s)
  unfold execOp
  simp only [Instr.buildSlice, List.map_toArray, List.map_cons, List.map_nil, hx]
  rw [Nat.one_mul] at hf
  have hn0 : ¬ n = 0 := by omega
  have hn3 : ¬ 16777216 < n := by omega
  simp [Sem.run_bind, run_underlying hS, sizeOf, typeInfo, h1, h2, hz, hn0, hn3, hf, newRow]
theorem wc_slice_one (hT : BytesT P T n) (hn : 0 < n) (hn2 : n ≤ 16777216) {S : TypeId} (hS : P.underlying S = some (.slice T)) {s : Arr n} (hx : a.eval x = .agg (secA s))
    (h : wpList P ops Q rest (a.put dst (.slice (some ⟨w.heap.size, 0, none⟩) 1 1)) (w.alloc (.cells (secA s) T))) : wpList P ops Q (⟨dst, .buildSlice S 1 #[(0, x)], ty, pos, af, none⟩ :: rest) a w :=
  wc_value rfl (exec_slice_one hT hn hn2 hS hx) h

/-- A slice of arrays of the call's own. -/
def OwnArrs (w : World) (B : Nat) (e : TypeId) (v : Value) (ls : List (Arr n)) : Prop := w.ownsRow B e n v ls.length (secsA ls).toList
theorem ownArrs_nil (w : World) (B : Nat) (e : TypeId) : OwnArrs (n := n) w B e (.slice none 0 0) [] := World.ownsRow_nil w B e n
theorem OwnArrs.shape {B : Nat} {e : TypeId} {v : Value} {ls : List (Arr n)} (h : OwnArrs w B e v ls) :
    (v = .slice none 0 0 ∧ ls = []) ∨ ∃ g cap, v = .slice (some ⟨g, 0, none⟩) ls.length cap ∧ B ≤ g ∧ SecsIn w g ls := by
  obtain ⟨h1, h2⟩ := h
  rcases h2 with ⟨rfl, h3⟩ | ⟨g, cap, cur, rfl, h3, h4, h5, h6, h7, h8⟩
  · exact .inl ⟨rfl, List.eq_nil_of_length_eq_zero h3⟩
  · refine .inr ⟨g, cap, rfl, h3, cur, e, h4, by rw [h7]; exact Nat.mul_le_mul_right _ h5, ?_⟩
    apply Array.toList_inj.1
    rw [Array.toList_extract, List.extract_eq_take_drop, List.drop_zero, Nat.sub_zero, h8]
theorem OwnArrs.kept {w' : World} {B : Nat} {e : TypeId} {v : Value} {ls : List (Arr n)} {S : List Nat} (h : OwnArrs w B e v ls) (ht : Tch S w w') (hn : ∀ g, v.ownBlock = some g → g ∉ S) : OwnArrs w' B e v ls := by
  obtain ⟨h1, h2⟩ := h
  refine ⟨h1, ?_⟩
  rcases h2 with h2 | ⟨g, cap, cur, rfl, h3, h4, h5⟩
  · exact .inl h2
  · exact .inr ⟨g, cap, cur, rfl, h3, ht.heap h4 (hn g rfl), h5⟩
theorem OwnArrs.lt {B : Nat} {e : TypeId} {v : Value} {ls : List (Arr n)} (h : OwnArrs w B e v ls) : ∀ k ∈ v.ownBlock.toList, B ≤ k ∧ k < w.heap.size := by
  intro k hk
  rcases h.shape with ⟨rfl, _⟩ | ⟨g, cap, rfl, hb, cur, e', hg, _⟩
  · simp [Value.ownBlock] at hk
  · simp [Value.ownBlock] at hk
    subst hk
    exact ⟨hb, lt_of_heap hg⟩
theorem secsA_snoc (ls : List (Arr n)) (s : Arr n) : (secsA (ls ++ [s])).toList = (secsA ls).toList ++ (secA s).toList := by
  unfold secsA
  rw [List.map_append, rowsA_append]
  simp [rowsA]
/-- 'append(l, s)'. -/
theorem wc_append_arr (hT : BytesT P T n) (hn : 0 < n) {S : TypeId} (hS : P.underlying S = some (.slice T)) {B : Nat} {v : Value} {ls : List (Arr n)} (h : OwnArrs w B T v ls) (hB : B ≤ w.heap.size) (hl : (ls.length + 1) * n ≤ 140737488355328) {ar : Array Operand} {ts : Array TypeId} (har : ar = #[x, y]) (hts : ts = #[S, S]) (hx : a.eval x = v)
    {g : Nat} {s : Arr n} {e : TypeId} (hy : a.eval y = .slice (some ⟨g, 0, none⟩) 1 1) (hg : w.heap[g]? = some (.cells (secA s) e))
    (h' : ∀ v' w', OwnArrs w' B T v' (ls ++ [s]) → Tch v.ownBlock.toList w w' → wpList P ops Q rest (a.put dst v') w') : wpList P ops Q (⟨dst, .call { callee := .builtin .append, args := ar, argTypes := ts }, ty, pos, af, none⟩ :: rest) a w := by
  subst har hts
  obtain ⟨i, h1, h2, h3, h4⟩ := hT.info
  have hmul : ls.length + 1 ≤ (ls.length + 1) * n := Nat.le_mul_of_pos_right _ hn
  refine wpList_append_own w rfl x y S rfl B T i (.agg (bytesA (List.replicate n 0))) n n hS h1 h4 h2 h3 (by simp [Value.cells]) hn v ls.length (secsA ls).toList hx h ⟨g, 0, none⟩ 1 1 (secA s).toList hy (by simp) ?_ ?_ ?_ ?_ hB ?_
  · intro j u hj
    rw [add_mk, Nat.zero_add, cell_of_row w g j _ _ _ hg]
    simpa using hj
  · exact secA_one s
  · unfold maxLen; omega
  · exact hl
  · intro v' w' hown hgr _
    refine h' v' w' ?_ (Tch.of_grown hgr (fun k hk => by rw [hk]; simp))
    unfold OwnArrs
    rw [secsA_snoc, List.length_append, List.length_singleton]
    exact hown
theorem spl_extract {c v : Array Value} {off m : Nat} (h1 : off + v.size ≤ m) (h2 : m ≤ c.size) : (spl c off v).extract 0 m = spl (c.extract 0 m) off v := by
  apply Array.toList_inj.1
  have e1 : (c.toList.take off ++ v.toList).length = off + v.size := by simp; omega
  simp only [spl, Array.toList_extract, List.extract_eq_take_drop, List.drop_zero, Nat.sub_zero]
  rw [List.take_append, e1, List.take_of_length_le (by rw [e1]; exact h1), List.take_take, Nat.min_eq_left (by omega), List.drop_take]
/-- One of a row's head is stored. -/
theorem exec_store_in (hT : BytesT P T n) {b i : Nat} {ls : List (Arr n)} {s : Arr n} {o : Oper} (ho : o.op = .store T x y) (hb : SecsIn w b ls) (hi : i < ls.length) (hx : a.eval x = .pointer (some ⟨b, i * n, none⟩)) (hy : a.eval y = .agg (secA s)) :
    ∃ w', (execOp a.eval o).run P w = .ok .skip w' ∧ SecsIn w' b (ls.set i s) ∧ Tch [b] w w' := by
  obtain ⟨cur, e, h1, h2, h3⟩ := hb
  have hl := mul_in (k := n) hi
  refine ⟨_, exec_store_agg hT.agg ho hx hy (by simp) (secA_one s) h1 (by omega), ⟨_, _, setRow_heap _ _ _ _ _ _ h1, ?_, ?_⟩, (Tch.refl _ _).setRow (.inl (by simp)) _⟩
  · rw [List.length_set, size_spl _ _ _ (by simp; omega)]; exact h2
  · rw [List.length_set, spl_extract (by simp; omega) h2, h3, secsA_spl hi]
theorem wc_store_in (hT : BytesT P T n) {b i : Nat} {ls : List (Arr n)} {s : Arr n} (hb : SecsIn w b ls) (hi : i < ls.length) (hx : a.eval x = .pointer (some ⟨b, i * n, none⟩)) (hy : a.eval y = .agg (secA s))
    (h : ∀ w', SecsIn w' b (ls.set i s) → Tch [b] w w' → wpList P ops Q rest (a.put dst undef) w') : wpList P ops Q (⟨dst, .store T x y, ty, pos, af, none⟩ :: rest) a w := by
  obtain ⟨w', h1, h2, h3⟩ := exec_store_in hT (o := ⟨dst, .store T x y, ty, pos, af, none⟩) rfl hb hi hx hy
  exact wc_done rfl h1 (h w' h2 h3)
/-- 'copy(d, l)', both of one length. -/
theorem run_copy_arrs (hT : BytesT P T n) {S S2 : TypeId} (hS : P.underlying S = some (.slice T)) {L b : Nat} {ls ls0 : List (Arr n)} {c1 c2 : Nat} {e : TypeId} (hL : w.heap[L]? = some (.cells (secsA ls0) e)) (hb : SecsIn w b ls) (hlen : ls0.length = ls.length) :
    (Builtin.copy_ #[S, S2] ty #[.slice (some ⟨L, 0, none⟩) ls.length c1, .slice (some ⟨b, 0, none⟩) ls.length c2]).run P w = .ok (goInt ls.length) (w.setRow L (secsA ls)) := by
  obtain ⟨i, h1, h2, _, _⟩ := hT.info
  obtain ⟨cur, e', g1, g2, g3⟩ := hb
  have hl := run_loadCells_block (P := P) w b 0 (ls.length * n) cur e' (0, 0) g1 (by omega)
  rw [Nat.zero_add, g3] at hl
  have hst := run_storeCells_at P L 0 e (secsA ls).toList 0 (secsA ls0) w hL (by simp [hlen]) (secsA_one ls)
  simp only [Nat.zero_add, List.take_zero, List.nil_append] at hst
  rw [List.drop_of_length_le (by simp [hlen]), List.append_nil, Array.toArray_toList] at hst
  simp [Builtin.copy_, run_underlying hS, Builtin.lenOf, Builtin.firstCells, sizeOf, typeInfo, h1, h2, hl, hst]
theorem wc_copy_arrs (hT : BytesT P T n) {S S2 : TypeId} (hS : P.underlying S = some (.slice T)) {L b : Nat} {ls ls0 : List (Arr n)} {c1 c2 : Nat} {e : TypeId} (hL : w.heap[L]? = some (.cells (secsA ls0) e)) (hb : SecsIn w b ls) (hlen : ls0.length = ls.length) {ar : Array Operand} {ts : Array TypeId} (har : ar = #[x, y]) (hts : ts = #[S, S2])
    (hx : a.eval x = .slice (some ⟨L, 0, none⟩) ls.length c1) (hy : a.eval y = .slice (some ⟨b, 0, none⟩) ls.length c2) (h : wpList P ops Q rest (a.put dst (goInt ls.length)) (w.setRow L (secsA ls))) :
    wpList P ops Q (⟨dst, .call { callee := .builtin .copy, args := ar, argTypes := ts }, ty, pos, af, none⟩ :: rest) a w := by
  subst har hts
  refine wc_value rfl ?_ h
  have hr := run_copy_arrs (ty := ty) (S2 := S2) (c1 := c1) (c2 := c2) hT hS hL hb hlen
  unfold execOp
  simp [resolve, invoke, builtin, hx, hy, hr, Result.andThen]
end
end Go.Cib
/-
  A disk of sectors that are laid: Load of both; the walk of DiskLoads.
-/
namespace Go.Proofs.YthbaipljlbddcaaGreat
open Go.RowKit Go.Cib

def loaded (ls : List Sec) : DiskS := { DiskS.made ls.length with lasts := ls }
theorem loaded_ok {ls : List Sec} (h1 : 1 ≤ ls.length) (h2 : ls.length ≤ 16384) : (loaded ls).Ok := ⟨h1, h2, by simp [loaded, DiskS.made], by simp [loaded, DiskS.made], by simp [loaded, DiskS.made]⟩

set_option maxHeartbeats 400000 in
theorem load_no (w : World) : Calls Tryz.prog 6 #[.slice none 0 0] w fun e w' => e = .returned (.tuple #[.pointer none, .int .i64 2]) ∧ w = w' := by
  go_enter Tryz.func6, Tryz.ntmps6
  go_wp2_with (go_at_call 12; refine (new_no _ 0 (.inl (by omega))).mono ?_; rintro e w' ⟨rfl, rfl⟩)
  go_ret2
  exact ⟨rfl, rfl⟩
set_option maxHeartbeats 400000 in
theorem refLoad_no (w : World) : Calls Tryz.prog 7 #[.slice none 0 0] w fun e w' => e = .returned (.tuple #[.pointer none, .int .i64 2]) ∧ w = w' := by
  go_enter Tryz.func7, Tryz.ntmps7
  go_wp2_with (go_at_call 24; refine (refNew_no _ 0 (.inl (by omega))).mono ?_; rintro e w' ⟨rfl, rfl⟩)
  go_loopg [6] 0 (fun q i wr => q = 0 ∧ i = .int .i64 0 ∧ w = wr)
  case atStart => exact ⟨rfl, rfl, rfl⟩
  case round =>
    obtain ⟨rfl, rfl, rfl⟩ := hrel
    go_wp2_with fail
    go_ret2
    exact ⟨rfl, rfl⟩

set_option maxHeartbeats 1000000 in
theorem load_any {w : World} {b : Nat} {ls : List Sec} {cap : Nat} (hb : SecsIn w b ls) (h1 : 1 ≤ ls.length) (h2 : ls.length ≤ 16384) :
    Calls Tryz.prog 6 #[.slice (some ⟨b, 0, none⟩) ls.length cap] w fun e w' => ∃ d L M, e = .returned (.tuple #[.pointer (some ⟨d, 0, none⟩), .int .i64 0]) ∧
      DiskAt w' d L M (loaded ls) ∧ Tch [] w w' ∧ w.heap.size ≤ d ∧ w.heap.size ≤ L ∧ w.heap.size ≤ M := by
  have HB := Lib.hid hb
  have blt : b < w.heap.size := by obtain ⟨cur, e, g, _⟩ := hb; exact lt_of_heap g
  clear hb
  obtain ⟨n, hn⟩ : ∃ n, ls.length = n := ⟨_, rfl⟩
  rw [hn] at h1 h2 ⊢
  have HN := Lib.hid hn
  clear hn
  go_enter Tryz.func6, Tryz.ntmps6
  go_wp2_with fail
  refine (new_any w n h1 h2).mono ?_
  rintro e w1 ⟨d, L, M, rfl, g1, t1, n1, n2, n3⟩
  have c0 := cell_of_row w1 d 0 _ _ _ g1.hd
  simp only [List.getElem?_toArray, List.getElem?_cons_zero] at c0
  have hl0 : (DiskS.made n).lasts.length = n := by simp [DiskS.made]
  rw [hl0] at c0
  have HL0 : Hid ((DiskS.made n).lasts.length = ls.length) := hl0.trans HN.out.symm
  have HB1 := Lib.hid (HB.out.touch t1 (by simp))
  have G1 := Lib.hid g1
  have T1 := Lib.hid t1
  have COPY : Hid (∀ {ops : Array Oper} {rest : List Oper} {a : Act} {Q : Exit → Act → World → Prop} {dst : Option Tmp} {ty : TypeId} {pos : String} {af : Array Edge} {x y : Operand}, a.eval x = .slice (some ⟨L, 0, none⟩) n n → a.eval y = .slice (some ⟨b, 0, none⟩) n cap →
      wpList Tryz.prog ops Q rest (a.put dst (goInt n)) (w1.setRow L (secsA ls)) → wpList Tryz.prog ops Q (⟨dst, .call { callee := .builtin .copy, args := #[x, y], argTypes := #[24, 24] }, ty, pos, af, none⟩ :: rest) a w1) := by
    intro ops rest a Q dst ty pos af x y hx hy h
    have hn := HN.out
    subst hn
    exact wc_copy_arrs secT uSecs G1.out.hL HB1.out HL0.out rfl rfl hx hy h
  clear g1 t1 hl0
  go_wp2_with ((with_reducible apply COPY.out); exact rfl; exact rfl; go_frame)
  go_ret2
  have hn := HN.out
  subst hn
  have g := G1.out
  have ht : Tch [L] w1 (w1.setRow L (secsA ls)) := (Tch.refl _ _).setRow (by simp) _
  refine ⟨d, L, M, rfl, ⟨?_, setRow_heap _ _ _ _ _ _ g.hL, ?_, g.dL, g.dM, g.LM, loaded_ok h1 h2⟩, tch_own T1.out ht (by simpa using n2), n1, n2, n3⟩
  · have := ht.heap g.hd (by simpa using g.dL)
    simpa [loaded, DiskS.made] using this
  · exact g.hM.touch ht (by simpa using g.LM.symm)

theorem RefAt.relast {w : World} {r L W H : Nat} {D : DiskS} (h : RefAt w r L W H D) (ls : List Sec) (hl : ls.length = D.lasts.length) : RefAt (w.setRow L (secsA ls)) r L W H { D with lasts := ls } := by
  have ht : Tch [L] w (w.setRow L (secsA ls)) := (Tch.refl _ _).setRow (by simp) _
  obtain ⟨ws, g1, g2, g3⟩ := h.hW
  refine ⟨?_, setRow_heap _ _ _ _ _ _ h.hL, ⟨ws, ht.heap g1 (by simpa using h.d4.symm), g2.trans hl.symm, g3⟩, ?_, h.d1, h.d2, h.d3, h.d4, h.d5, h.d6, ⟨by rw [hl]; exact h.ok.some, by rw [hl]; exact h.ok.size, by simp only [hl]; exact h.ok.sup, h.ok.arm0, h.ok.arm1⟩⟩
  · have := ht.heap h.hr (by simpa using h.d1)
    simpa [hl] using this
  · rw [show hasA { D with lasts := ls } = hasA D by unfold hasA; simp only [hl]]
    exact ht.heap h.hH (by simpa using h.d5.symm)

def RefLoaded (w : World) (ls : List Sec) (e : Ending) (w' : World) : Prop :=
  ∃ r L W H, e = .returned (.tuple #[.pointer (some ⟨r, 0, none⟩), .int .i64 0]) ∧ RefAt w' r L W H (loaded ls) ∧ Tch [] w w' ∧ w.heap.size ≤ r ∧ w.heap.size ≤ L ∧ w.heap.size ≤ W ∧ w.heap.size ≤ H
set_option maxRecDepth 20000 in
set_option maxHeartbeats 1000000 in
theorem refLoad_any {w : World} {b : Nat} {ls : List Sec} {cap : Nat} (hb : SecsIn w b ls) (h1 : 1 ≤ ls.length) (h2 : ls.length ≤ 16384) :
    Calls Tryz.prog 7 #[.slice (some ⟨b, 0, none⟩) ls.length cap] w (RefLoaded w ls) := by
  have HB := Lib.hid hb
  have blt : b < w.heap.size := by obtain ⟨cur, e, g, _⟩ := hb; exact lt_of_heap g
  clear hb
  obtain ⟨n, hn⟩ : ∃ n, ls.length = n := ⟨_, rfl⟩
  rw [hn] at h1 h2 ⊢
  have HN := Lib.hid hn
  clear hn
  go_enter Tryz.func7, Tryz.ntmps7
  go_wp2_with fail
  refine (refNew_any w n h1 h2).mono ?_
  rintro e w1 ⟨r, L, W, H, rfl, g1, t1, n1, n2, n3, n4⟩
  have G1 := Lib.hid g1
  have T1 := Lib.hid t1
  clear g1 t1
  go_wp2_with fail
  go_loopg [6] n (fun q i wr => ∃ j, OnAt n i q j ∧ ∃ ls', RefAt wr r L W H { DiskS.made n with lasts := ls' } ∧ Tch [] w wr ∧ ls'.length = n ∧ ls'.take j = ls.take j)
  case atStart => exact ⟨0, ⟨Nat.zero_le _, rfl, rfl⟩, _, G1.out, T1.out, by simp, rfl⟩
  case round =>
    obtain ⟨j, ⟨hj, rfl, rfl⟩, ls', hR, hT, hl, ht⟩ := hrel
    have c0 := cell_of_row wr r 0 _ _ _ hR.hr
    simp only [List.getElem?_toArray, List.getElem?_cons_zero, hl] at c0
    have HR := Lib.hid hR
    have HT := Lib.hid hT
    have HL := Lib.hid hl
    have HTK := Lib.hid ht
    clear hR hT hl ht G1 T1
    by_cases hjn : j < n
    · have hx : ls[j]? = some (ls[j]'(by have := HN.out; omega)) := List.getElem?_eq_getElem _
      generalize ls[j]'(by have := HN.out; omega) = s at *
      have HX := Lib.hid hx
      have HB1 := Lib.hid (HB.out.touch HT.out (by simp))
      have hjl : j < ls'.length := by have := HL.out; omega
      clear hx
      go_wp2_with fail
      (refine wp_region_walk (C := fun w' => ∃ n, w' = World.drewN wr n) 10 (by kernel_rfl) (by kernel_rfl) ⟨1, rfl⟩ ?_; simp only [List.take_succ_cons, List.take_zero, List.drop_succ_cons, List.drop_zero]; (repeat (first | ((with_reducible apply wq_load_in secT (drewN_secs HB1.out) HX.out); exact rfl; exact rfl; go_frame) | go_big_quiet_step (fail))); refine wpQuiet_nil ?_; intro _ hw'; obtain ⟨nq, hw''⟩ := hw'; subst hw'')
      apply wc_store_row secT (drewN_heap HR.out.hL _ ⟨nq, rfl⟩) hjl
      · exact rfl
      · exact rfl
      go_frame
      go_wp2_with fail
      go_roundg (n - (j + 1))
      case measure => omega
      case rel =>
        have t2 := tch_drewN wr nq
        have hr := HR.out.touch t2 (by simp) (by simp) (by simp) (by simp)
        have hr2 := hr.relast (ls'.set j s) (by simp)
        have e1 : ls'.take j = ls.take j := HTK.out
        have e2 : ls[j]? = some s := HX.out
        refine ⟨j + 1, ⟨by omega, by go_num, rfl⟩, _, hr2, tch_own (HT.out.trans t2) ((Tch.refl [L] _).setRow (by simp) _) (by simpa using n2), by simpa using HL.out, ?_⟩
        rw [List.take_add_one, List.take_add_one, e2, List.take_set_of_le (Nat.le_refl _), e1]
        simp [hjl]
    · go_wp2_with fail
      go_ret2
      have hn := HN.out
      have e1 : ls'.take j = ls.take j := HTK.out
      have e3 : ls'.length = n := HL.out
      rw [List.take_of_length_le (by omega), List.take_of_length_le (by omega)] at e1
      subst e1
      subst hn
      exact ⟨r, L, W, H, rfl, HR.out, HT.out, n1, n2, n3, n4⟩
end Go.Proofs.YthbaipljlbddcaaGreat
