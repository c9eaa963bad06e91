/-
  Small laws, for any program: a region whose order is open, in which one operation alone turns what holds.
-/
import Derived.Test.YthbaipljlbddcaaRegion2
namespace Go.Cib
open Go
section
variable {P : Program} {ops : Array Oper} {n : Nat} {Q : Exit → Act → World → Prop}

theorem any_one {Inv : Bool → World → Prop} (k : Nat) {vs : Nat → Value} {a0 full : Act} {l : List Oper} (hB : invB l.toArray n = true) (hf : Agree l.toArray n vs a0 (listedN l.toArray.size n) full)
    (step : ∀ i o b, i < n → i ≠ k → l[i]? = some o → StepOk P l.toArray full (Inv b) o (vs i)) (once : ∀ o w, l[k]? = some o → Inv false w → Region.wanted o (yielded l.toArray full.tmps) = true ∧ StpR P (fun u w' => u = vs k ∧ Inv true w') ((execOp full.eval o).run P w)) (hk : k < n) (tail : ∀ w', Inv true w' → wpList P l.toArray Q (l.drop n) full w') :
    ∀ (c : Nat) (listed : Array Bool) (a : Act) (w : World), leftN n listed = c → HeadInv .any l.toArray n listed → Agree l.toArray n vs a0 listed a → Inv (listed.getD k false) w →
      wpAny P .any l.toArray Q (c + (l.toArray.size - n)) listed a w := by
  simp only [invB, Bool.and_eq_true, Bool.or_eq_true, decide_eq_true_eq] at hB
  obtain ⟨⟨⟨⟨hsel, hn⟩, hsink⟩, hhead⟩, hseq⟩ := hB
  have hall : ∀ j, j < n → (listedN l.toArray.size n).getD j false = true := by
    intro j hj
    have : j < l.length := by have := hn; simp at this; omega
    simp [listedN, this, hj]
  intro c
  induction c with
  | zero =>
    intro listed a w hc inv hag hw
    have h1 := leftN_zero hc
    have he := listed_eq inv.size h1 inv.tail
    subst he
    have hau := hag.unique hf
    subst hau
    have hdl : (l.drop n).length = l.toArray.size - n := by simp
    rw [Nat.zero_add, ← hdl]
    refine wpAny_of_seq (l.drop n) n _ a w (fun j => by simp [List.getElem?_drop]) ?_ (tail w (by rw [h1 k hk] at hw; exact hw))
    rw [hdl]; exact hseq
  | succ c ih =>
    intro listed a w hc inv hag hw
    obtain ⟨i0, g1, g2, g3⟩ := leftN_pos (n := n) (listed := listed) (by omega)
    have hin : i0 < listed.size := by rw [inv.size]; omega
    obtain ⟨o0, ho0, hon, _, _⟩ := headB_spec hhead g1
    have hready : i0 ∈ Region.ready .any l.toArray listed := mem_ready.2 ⟨getD_in hin g2, o0, ho0, fun e he hb => g3 _ (hon e he hb)⟩
    rw [show c + 1 + (l.toArray.size - n) = (c + (l.toArray.size - n)) + 1 by omega]
    refine ⟨fun h => (by rw [h] at hready; cases hready), fun i hi => ?_⟩
    have hilt : i < n := by
      rcases Nat.lt_or_ge i n with h | h
      · exact h
      · exfalso
        obtain ⟨hil, oi, hoi, _⟩ := mem_ready.1 hi
        have hisz : i < l.toArray.size := (Array.getElem?_eq_some_iff.1 hoi).1
        rcases hsink with hsz | ⟨hs, hch⟩
        · omega
        · exact tail_waits hs hch (by omega) inv _ i0 rfl g1 (getD_in hin g2) i h hi
    obtain ⟨hil, oi, hoi, hall'⟩ := mem_ready.1 hi
    obtain ⟨o, ho, _, hlk, hdst⟩ := headB_spec hhead hilt
    have hoo : oi = o := by rw [ho] at hoi; simpa using hoi.symm
    subst hoo
    have hil2 : i < listed.size := by rw [inv.size]; exact (Array.getElem?_eq_some_iff.1 ho).1
    have hlook : ∀ t ∈ oi.looksAt l.toArray, a.tmps[t]? = full.tmps[t]? := fun t ht => frame_looks hag hf hall fun j hj hd => (by
      have hwf := hlk t ht j hj hd
      obtain ⟨oj, hoj, e, he, hb, hon'⟩ := Region.waitsFor_spec hwf
      have : oj = oi := by rw [ho] at hoj; simpa using hoj.symm
      subst this
      have := hall' e he hb
      rw [hon'] at this
      exact this)
    have hleft := leftN_set (n := n) hilt hil2 (getD_both hil)
    by_cases hik : i = k
    · subst hik
      rw [getD_both hil] at hw
      obtain ⟨o1, o2⟩ := once oi w (by simpa using ho) hw
      refine wpOp_stepR ho (Region.noSelect_spec hsel i oi · · ho) hlook ⟨fun _ => o2, fun hc => (by rw [o1] at hc; cases hc)⟩ (fun u w' hw' => ?_)
      obtain ⟨rfl, hw'⟩ := hw'
      refine ih _ _ w' (by omega) (inv.set hi hilt) (hag.put ho hil2 hdst) ?_
      rw [show (listed.setIfInBounds i true).getD i false = true by simp [hil2]]
      exact hw'
    · refine wpOp_step ho (Region.noSelect_spec hsel i oi · · ho) hlook (step i oi _ hilt hik (by simpa using ho)) hw (fun w' hw' => ?_)
      refine ih _ _ w' (by omega) (inv.set hi hilt) (hag.put ho hil2 hdst) ?_
      rw [getD_set_ne false hik]
      exact hw'


def StepsBut (P : Program) (ops : Array Oper) (full : Act) (Inv : World → Prop) : Nat → List Oper → List Value → Prop
  | 0, _ :: os, _ :: vs => StepsOk P ops full Inv os vs
  | k + 1, o :: os, v :: vs => StepOk P ops full Inv o v ∧ StepsBut P ops full Inv k os vs
  | _, _, _ => True
theorem StepsBut.get {full : Act} {Inv : World → Prop} : ∀ {k : Nat} {os : List Oper} {vs : List Value}, StepsBut P ops full Inv k os vs → os.length = vs.length → ∀ i o, i ≠ k → os[i]? = some o → StepOk P ops full Inv o (vs.getD i undef)
  | _, [], _, _, _, i, o, _, h => by simp at h
  | _, o :: os, [], _, hl, i, o', _, h => by simp at hl
  | 0, o :: os, v :: vs, hs, hl, 0, o', hne, h => absurd rfl hne
  | 0, o :: os, v :: vs, hs, hl, i + 1, o', _, h => by
    simp only [List.getElem?_cons_succ] at h
    have := StepsOk.get hs (by simpa using hl) i o' h
    simpa using this
  | k + 1, o :: os, v :: vs, hs, hl, 0, o', _, h => by simp at h; subst h; exact hs.1
  | k + 1, o :: os, v :: vs, hs, hl, i + 1, o', hne, h => by
    simp only [List.getElem?_cons_succ] at h
    have := StepsBut.get hs.2 (by simpa using hl) i o' (by omega) h
    simpa using this
theorem stepsBut_cons {full : Act} {Inv : World → Prop} {k : Nat} {o : Oper} {os : List Oper} {v : Value} {vs : List Value} (h : StepOk P ops full Inv o v) (h' : StepsBut P ops full Inv k os vs) : StepsBut P ops full Inv (k + 1) (o :: os) (v :: vs) := ⟨h, h'⟩
theorem stepsBut_here {full : Act} {Inv : World → Prop} {o : Oper} {os : List Oper} {v : Value} {vs : List Value} (h : StepsOk P ops full Inv os vs) : StepsBut P ops full Inv 0 (o :: os) (v :: vs) := h

/-- As wp_region_inv, and the k-th operation alone turns what holds. -/
theorem wp_region_one {id : Nat} {a : Act} {w : World} {l : List Oper} (n k : Nat) (vs : List Value) (full : Act) (Inv : Bool → World → Prop) (hm : P.follows .mixedOrders = true) (hB : invB l.toArray n = true) (hv : vs.length = n)
    (hfull : putAll a (l.take n) vs = full) (hk : k < n) (h0 : Inv false w.drew) (steps : ∀ b, StepsBut P l.toArray full (Inv b) k (l.take n) vs) (once : ∀ o w, l[k]? = some o → Inv false w → Region.wanted o (yielded l.toArray full.tmps) = true ∧ StpR P (fun u w' => u = vs.getD k undef ∧ Inv true w') ((execOp full.eval o).run P w)) (tail : ∀ w', Inv true w' → wpList P l.toArray Q (l.drop n) full w') : (Code.region id l.toArray true).wp P Q a w := by
  have hB' := hB
  simp only [invB, Bool.and_eq_true, Bool.or_eq_true, decide_eq_true_eq] at hB'
  obtain ⟨⟨⟨⟨hsel, hn⟩, hsink⟩, hhead⟩, hseq⟩ := hB'
  have hn' : n ≤ l.length := by simpa using hn
  have hag := putAll_agree (a0 := a) (vs := vs) hhead hn' hv
  rw [hfull] at hag
  refine wp_region_any hm ?_
  have inv0 : HeadInv .any l.toArray n (Array.replicate l.toArray.size false) :=
    ⟨by simp, fun j oj _ hl => (by rw [getD_replicate_false] at hl; cases hl), fun t _ ht => getD_in (by simpa using ht) (getD_replicate_false _ _)⟩
  have hl0 : leftN n (Array.replicate l.toArray.size false) = n := by
    unfold leftN
    rw [List.filter_eq_self.2 (fun j _ => by rw [getD_replicate_false]; rfl), List.length_range]
  have := any_one (P := P) (Q := Q) (Inv := Inv) k hB hag (fun i o b hi hne ho => StepsBut.get (steps b) (by rw [List.length_take, hv]; omega) i o hne (by rw [List.getElem?_take, if_pos hi]; exact ho)) once hk tail n _ a _ hl0 inv0 (Agree.start _ _ _ _ _) (by rw [getD_replicate_false]; exact h0)
  rwa [show n + (l.toArray.size - n) = l.toArray.size by omega] at this

end
end Go.Cib
