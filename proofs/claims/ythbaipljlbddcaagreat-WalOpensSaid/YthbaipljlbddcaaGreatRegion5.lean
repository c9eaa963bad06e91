/-
  Small laws, for any program: a region whose order is open, that ends in a store: the reads ahead of it walked once, in the text's order, in each of two classes of worlds.
-/
import Derived.Test.YthbaipljlbddcaaGreatRegAll
namespace Go.Cib
open Go Go.RowKit
section
variable {P : Program} {n : Nat} {Q : Exit → Act → World → Prop}
theorem headB_mono {ops : Array Oper} {k : Nat} (h : headB .any ops n = true) (hk : k ≤ n) : headB .any ops k = true := by
  unfold headB at h ⊢
  rw [List.all_eq_true] at h ⊢
  intro i hi
  have h1 := h i (List.mem_range.2 (by have := List.mem_range.1 hi; omega))
  split at h1
  · exact h1
  · rename_i o ho
    simp only [Bool.and_eq_true, List.all_eq_true, Array.all_eq_true_iff_forall_mem] at h1 ⊢
    obtain ⟨⟨h2, h3⟩, h4⟩ := h1
    refine ⟨⟨h2, fun t ht j hj => h3 t ht j (List.mem_range.2 (by have := List.mem_range.1 hj; omega))⟩, ?_⟩
    cases hd : o.dst with
    | none => rfl
    | some d =>
      simp only [hd, List.all_eq_true] at h4 ⊢
      exact fun j hj => h4 j (List.mem_range.2 (by have := List.mem_range.1 hj; omega))
theorem headOf_skip {ops : Array Oper} {k t : Nat} (hd : (ops[k]?).bind (·.dst) = none) : headOf ops (k + 1) t = headOf ops k t := by
  unfold headOf
  rw [List.range_succ, List.find?_append]
  have : ([k].find? fun j => ((ops[j]?).bind (·.dst)) == some t) = none := by simp [hd]
  rw [this, Option.or_none]
/-- The law. -/
theorem wp_region_walk_one {id : Nat} {a : Act} {w : World} {l : List Oper} (k : Nat) (A1 : Act) (Inv : Bool → World → Prop) (hm : P.follows .mixedOrders = true) (hB : invB l.toArray (k + 1) = true) (hd : (l.toArray[k]?).bind (·.dst) = none)
    {N : Nat} (hN : a.tmps.size = N) (hdst : ((List.range k).all fun i => match (l.toArray[i]?).bind (·.dst) with | some d => decide (d < N) | none => false) = true) (h0 : Inv false w.drew) (h : ∀ b, wpQuiet P l.toArray (Inv b) (fun a1 => a1 = A1) (l.take k) a)
    (once : ∀ o w, l[k]? = some o → Inv false w → Region.wanted o (yielded l.toArray A1.tmps) = true ∧ StpR P (fun u w' => u = undef ∧ Inv true w') ((execOp A1.eval o).run P w)) (tail : ∀ w', Inv true w' → wpList P l.toArray Q (l.drop (k + 1)) A1 w') :
    (Code.region id l.toArray true).wp P Q a w := by
  have hB' := hB
  simp only [invB, Bool.and_eq_true, Bool.or_eq_true, decide_eq_true_eq] at hB'
  obtain ⟨⟨⟨⟨hsel, hn⟩, hsink⟩, hhead⟩, hseq⟩ := hB'
  have hn' : k + 1 ≤ l.length := by simpa using hn
  have hheadk := headB_mono hhead (Nat.le_succ k)
  have hst : Agree l.toArray k (fun _ => undef) a (listedN l.toArray.size 0) a := by
    rw [← listedN_zero]; exact Agree.start _ _ _ _ _
  have key : ∀ b, ∃ vs, Agree l.toArray k vs a (listedN l.toArray.size k) A1 ∧ ∀ i, i < k → ∀ o, l[i]? = some o → StepOk P l.toArray A1 (Inv b) o (vs i) := fun b => by
    obtain ⟨vs, full, _, g2, rfl, g4⟩ := quiet_steps hsel hheadk (by omega) k 0 _ a (by omega) hst (by simpa using h b)
    exact ⟨vs, g2, fun i hi o ho => g4 i (by omega) hi o ho⟩
  obtain ⟨vf, af, sf⟩ := key false
  obtain ⟨vt, at_, st⟩ := key true
  have hlk : ∀ j, j < k → (listedN l.toArray.size k).getD j false = true := by
    intro j hj
    have : j < l.length := by omega
    simp [listedN, this, hj]
  have same : ∀ i, i < k → vf i = vt i := by
    intro i hi
    have h1 := List.all_eq_true.1 hdst i (List.mem_range.2 hi)
    obtain ⟨o, ho, _, _, hd2⟩ := headB_spec hheadk hi
    obtain ⟨d, hd1, hdN⟩ : ∃ d, (l.toArray[i]?).bind (·.dst) = some d ∧ d < N := by
      split at h1
      · rename_i d he; exact ⟨d, he, by simpa using h1⟩
      · cases h1
    have hod : o.dst = some d := by rw [ho] at hd1; exact hd1
    have hh := hd2 d hod
    have e1 := af.tmps d (hN.symm ▸ hdN)
    have e2 := at_.tmps d (hN.symm ▸ hdN)
    rw [hh] at e1 e2
    simp only [hlk i hi, if_true] at e1 e2
    rw [e1] at e2
    exact Option.some.inj e2
  have hag : Agree l.toArray (k + 1) (fun j => if j = k then undef else vf j) a (listedN l.toArray.size (k + 1)) A1 := by
    refine ⟨af.defers, af.size, fun t ht => ?_⟩
    rw [af.tmps t ht, headOf_skip hd]
    cases hh : headOf l.toArray k t with
    | none => rfl
    | some j =>
      have hj := (headOf_some hh).1
      have hjl : j < l.length := by omega
      have e1 : (listedN l.toArray.size (k + 1)).getD j false = true := by simp [listedN, hjl]; omega
      simp only [hlk j hj, e1, if_true]
      rw [if_neg (by omega)]
  refine wp_region_any hm ?_
  have inv0 : HeadInv .any l.toArray (k + 1) (Array.replicate l.toArray.size false) :=
    ⟨by simp, fun j oj _ hl => (by rw [getD_replicate_false] at hl; cases hl), fun t _ ht => getD_in (by simpa using ht) (getD_replicate_false _ _)⟩
  have hl0 : leftN (k + 1) (Array.replicate l.toArray.size false) = k + 1 := by
    unfold leftN
    rw [List.filter_eq_self.2 (fun j _ => by rw [getD_replicate_false]; rfl), List.length_range]
  have := any_one (P := P) (Q := Q) (Inv := Inv) k hB hag (fun i o b hi hne ho => by
    simp only [if_neg hne]
    cases b with
    | false => exact sf i (by omega) o ho
    | true => rw [same i (by omega)]; exact st i (by omega) o ho) (fun o w ho hi => by simp only [if_true]; exact once o w ho hi) (by omega) tail (k + 1) _ a _ hl0 inv0 (Agree.start _ _ _ _ _) (by rw [getD_replicate_false]; exact h0)
  rwa [show k + 1 + (l.toArray.size - (k + 1)) = l.toArray.size by omega] at this
theorem wp_region_walk_end {id : Nat} {a : Act} {w : World} {l : List Oper} (k : Nat) (Inv : Bool → World → Prop) (hm : P.follows .mixedOrders = true) (hB : invB l.toArray (k + 1) = true) (hd : (l.toArray[k]?).bind (·.dst) = none)
    {N : Nat} (hN : a.tmps.size = N) (hdst : ((List.range k).all fun i => match (l.toArray[i]?).bind (·.dst) with | some d => decide (d < N) | none => false) = true) (h0 : Inv false w.drew)
    (h : ∃ A1, (∀ b, wpQuiet P l.toArray (Inv b) (fun a1 => a1 = A1) (l.take k) a) ∧ (∀ o w, l[k]? = some o → Inv false w → Region.wanted o (yielded l.toArray A1.tmps) = true ∧ StpR P (fun u w' => u = undef ∧ Inv true w') ((execOp A1.eval o).run P w)) ∧ (∀ w', Inv true w' → wpList P l.toArray Q (l.drop (k + 1)) A1 w')) :
    (Code.region id l.toArray true).wp P Q a w := by
  obtain ⟨A1, h1, h2, h3⟩ := h
  exact wp_region_walk_one k A1 Inv hm hB hd hN hdst h0 h1 h2 h3
end
end Go.Cib
