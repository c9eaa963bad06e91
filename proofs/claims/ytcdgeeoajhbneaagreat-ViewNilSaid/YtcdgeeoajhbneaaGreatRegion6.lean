/-
  Small laws, for any program: a region whose order is open, by an invariant over what was done, each step with its operands said.
-/
import Derived.Test.YtcdgeeoajhbneaaGreatRegion4
namespace Go.Cib
open Go Go.RowKit
theorem fullOf_eval {a0 : Act} {l : List Oper} {n : Nat} {vs : Nat → Value} (hB : invB l.toArray n = true) {t j : Nat} (ht : t < a0.tmps.size) (hj : headOf l.toArray n t = some j) : (fullOf a0 l n vs).eval (.tmp t) = vs j := by
  simp only [invB, Bool.and_eq_true, Bool.or_eq_true, decide_eq_true_eq] at hB
  obtain ⟨⟨⟨⟨_, hn⟩, _⟩, hhead⟩, _⟩ := hB
  have h := (putAll_agreeF (a0 := a0) (vs := vs) hhead (by simpa using hn)).tmps t ht
  rw [hj] at h
  have hl : (listedN l.toArray.size n).getD j false = true := by
    have := (headOf_some hj).1
    have hjl : j < l.length := by have := hn; simp at this; omega
    simp [listedN, hjl, this]
  simp only [hl, if_true] at h
  show (fullOf a0 l n vs).tmps.getD t undef = vs j
  rw [Array.getD_eq_getD_getElem?, h]
  rfl
theorem fullOf_old {a0 : Act} {l : List Oper} {n : Nat} {vs : Nat → Value} (hB : invB l.toArray n = true) {t : Nat} (ht : t < a0.tmps.size) (hj : headOf l.toArray n t = none) :
    (fullOf a0 l n vs).eval (.tmp t) = a0.tmps.getD t undef := by
  simp only [invB, Bool.and_eq_true, Bool.or_eq_true, decide_eq_true_eq] at hB
  obtain ⟨⟨⟨⟨_, hn⟩, _⟩, hhead⟩, _⟩ := hB
  have h := (putAll_agreeF (a0 := a0) (vs := vs) hhead (by simpa using hn)).tmps t ht
  rw [hj] at h
  show (fullOf a0 l n vs).tmps.getD t undef = _
  rw [Array.getD_eq_getD_getElem?, h]
  rfl
section
variable {P : Program} {Q : Exit → Act → World → Prop}
theorem wp_region_state {id : Nat} {a : Act} {w : World} {l : List Oper} (n : Nat) (Inv : Array Bool → (Nat → Value) → World → Prop) (hm : P.follows .mixedOrders = true) (hB : invB l.toArray n = true)
    (h0 : ∀ vs, Inv (Array.replicate l.toArray.size false) vs w.drew)
    (step : ∀ i o, i < n → l[i]? = some o → ∀ (listed : Array Bool) (vs : Nat → Value) (fu : Act) (w : World), Inv listed vs w → i < listed.size → listed.getD i false = false →
      (∀ t, t < a.tmps.size → headOf l.toArray n t = none → fu.eval (.tmp t) = a.tmps.getD t undef) →
      (∀ j t, t < a.tmps.size → Region.waitsFor .any l.toArray i j = true → headOf l.toArray n t = some j → listed.getD j false = true ∧ fu.eval (.tmp t) = vs j) →
      (Region.wanted o (yielded l.toArray fu.tmps) = true → StpR P (fun u w' => Inv (listed.setIfInBounds i true) (updV vs i u) w') ((execOp fu.eval o).run P w)) ∧
      (Region.wanted o (yielded l.toArray fu.tmps) = false → Inv (listed.setIfInBounds i true) (updV vs i undef) w))
    (tail : ∀ vs w', Inv (listedN l.toArray.size n) vs w' → wpList P l.toArray Q (l.drop n) (fullOf a l n vs) w') : (Code.region id l.toArray true).wp P Q a w :=
  wp_region_rel n Inv hm hB h0 (fun i o hi ho listed vs w hI hs hl hw => step i o hi ho listed vs (fullOf a l n vs) w hI hs hl (fun _ ht hh => fullOf_old hB ht hh) (fun j _ ht hw' hh => ⟨hw j hw', fullOf_eval hB ht hh⟩)) tail
end
/-- Values that are said; one variable that is made, and then written. -/
structure MadeOne (W : World) (val : Nat → Value) (ka ks : Nat) (zero full : Obj) (listed : Array Bool) (vs : Nat → Value) (w : World) : Prop where
  tch : Tch [] W w
  vals : ∀ j, j ≠ ka → j ≠ ks → listed.getD j false = true → vs j = val j
  ord : listed.getD ks false = true → listed.getD ka false = true
  made : listed.getD ka false = true → ∃ B, vs ka = .pointer (some ⟨B, 0, none⟩) ∧ W.heap.size ≤ B ∧ w.heap[B]? = some (if listed.getD ks false = true then full else zero)
theorem listed_set_ne {listed : Array Bool} {i j : Nat} (h : j ≠ i) : (listed.setIfInBounds i true).getD j false = listed.getD j false := by
  simp only [Array.getD_eq_getD_getElem?]
  rw [Array.getElem?_setIfInBounds_ne (Ne.symm h)]
theorem listed_set_eq {listed : Array Bool} {i : Nat} (h : i < listed.size) : (listed.setIfInBounds i true).getD i false = true := by simp [h]
namespace MadeOne
variable {W w w' : World} {val : Nat → Value} {ka ks : Nat} {zero full : Obj} {listed : Array Bool} {vs : Nat → Value}
theorem plain (h : MadeOne W val ka ks zero full listed vs w) (ht : Tch [] w w') {i : Nat} (hia : i ≠ ka) (his : i ≠ ks) : MadeOne W val ka ks zero full (listed.setIfInBounds i true) (updV vs i (val i)) w' := by
  refine ⟨h.tch.trans ht, fun j h1 h2 hl => ?_, fun hl => (by rw [listed_set_ne (Ne.symm his)] at hl; rw [listed_set_ne (Ne.symm hia)]; exact h.ord hl), fun hl => ?_⟩
  · unfold updV
    by_cases e : j = i
    · rw [if_pos e, e]
    · rw [if_neg e]; exact h.vals j h1 h2 (by rwa [listed_set_ne e] at hl)
  · rw [listed_set_ne (Ne.symm hia)] at hl
    obtain ⟨B, h1, h2, h3⟩ := h.made hl
    refine ⟨B, by unfold updV; rw [if_neg (Ne.symm hia)]; exact h1, h2, ?_⟩
    rw [listed_set_ne (Ne.symm his)]
    exact ht.heap h3 (by simp)
theorem alloc (h : MadeOne W val ka ks zero full listed vs w) (hak : ka ≠ ks) (hka : listed.getD ka false = false) (hsz : ka < listed.size) : MadeOne W val ka ks zero full (listed.setIfInBounds ka true) (updV vs ka (.pointer (some ⟨w.heap.size, 0, none⟩))) (w.alloc zero) := by
  have hks : listed.getD ks false = false := by
    cases hh : listed.getD ks false with
    | false => rfl
    | true => rw [h.ord hh] at hka; cases hka
  refine ⟨h.tch.alloc _, fun j h1 h2 hl => ?_, fun _ => listed_set_eq hsz, fun hl => ⟨w.heap.size, by simp [updV], h.tch.size, ?_⟩⟩
  · unfold updV
    rw [if_neg h1]; exact h.vals j h1 h2 (by rwa [listed_set_ne h1] at hl)
  · rw [listed_set_ne (Ne.symm hak), hks]
    exact heap_alloc_new _ _
theorem store (h : MadeOne W val ka ks zero full listed vs w) (hak : ka ≠ ks) (hs : ks < listed.size) (hla : listed.getD ka false = true) {B : Nat} (hv : vs ka = .pointer (some ⟨B, 0, none⟩)) (hB : W.heap.size ≤ B) (ht : Tch [B] w w') (hf : w'.heap[B]? = some full) (u : Value) :
    MadeOne W val ka ks zero full (listed.setIfInBounds ks true) (updV vs ks u) w' := by
  refine ⟨tch_own h.tch ht (by simpa using hB), fun j h1 h2 hl => ?_, fun _ => (by rw [listed_set_ne hak]; exact hla), fun _ => ⟨B, by unfold updV; rw [if_neg hak]; exact hv, hB, ?_⟩⟩
  · unfold updV
    rw [if_neg h2]; exact h.vals j h1 h2 (by rwa [listed_set_ne h2] at hl)
  · rw [listed_set_eq hs]; exact hf
end MadeOne
end Go.Cib
