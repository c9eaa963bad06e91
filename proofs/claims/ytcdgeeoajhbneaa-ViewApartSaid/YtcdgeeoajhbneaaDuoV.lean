/-
  Two worlds of views over one memory, of which neither's prefix begins with the other's.
-/
import Derived.Test.YtcdgeeoajhbneaaPlaysV
namespace Go.Cib
open Go
theorem begins_iff {k p : ByteArray} : begins k p = true ↔ tl p <+: tl k := by
  unfold begins
  exact List.isPrefixOf_iff_prefix
theorem begins_trans {k p q : ByteArray} (h1 : begins k p = true) (h2 : begins p q = true) : begins k q = true :=
  begins_iff.2 ((begins_iff.1 h2).trans (begins_iff.1 h1))
theorem begins_both {k p q : ByteArray} (h1 : begins k p = true) (h2 : begins k q = true) : begins p q = true ∨ begins q p = true := by
  rcases List.prefix_or_prefix_of_prefix (begins_iff.1 h1) (begins_iff.1 h2) with h | h
  · exact .inr (begins_iff.2 h)
  · exact .inl (begins_iff.2 h)
end Go.Cib
namespace Go.Proofs.Ytcdgeeoajhbneaa
open Go.RowKit Go.Cib
theorem World17.types {w : World} {W X M g : Nat} {lv mv kv vv : Value} {ls ms : List Nat} {ps : List ByteArray} {A B : List Kv} {N : Nat} (h : World17 w W X M g lv mv kv vv ls ms ps A B N) {k : Nat} (hk : k ∈ own17 W M g lv mv kv vv) :
    k = M ∨ ∃ c e, w.heap[k]? = some (.cells c e) ∧ e ≠ 55 ∧ e ≠ 46 ∧ e ≠ 51 := by
  unfold own17 at hk
  simp only [List.mem_cons, List.mem_append] at hk
  rcases hk with rfl | rfl | rfl | hk | hk | hk | hk
  · exact .inr ⟨_, _, h.hW, by decide, by decide, by decide⟩
  · exact .inl rfl
  · exact .inr ⟨_, _, h.bk.hg, by decide, by decide, by decide⟩
  · obtain ⟨c, hc⟩ := ptrs_type h.hl k hk
    exact .inr ⟨_, _, hc, by decide, by decide, by decide⟩
  · obtain ⟨c, hc⟩ := ptrs_type h.hm k hk
    exact .inr ⟨_, _, hc, by decide, by decide, by decide⟩
  · obtain ⟨c, hc⟩ := ptrs_type h.bk.hk k hk
    exact .inr ⟨_, _, hc, by decide, by decide, by decide⟩
  · obtain ⟨c, hc⟩ := ptrs_type h.bk.hv k hk
    exact .inr ⟨_, _, hc, by decide, by decide, by decide⟩
theorem World17.lt {w : World} {W X M g : Nat} {lv mv kv vv : Value} {ls ms : List Nat} {ps : List ByteArray} {A B : List Kv} {N : Nat} (h : World17 w W X M g lv mv kv vv ls ms ps A B N) {k : Nat} (hk : k ∈ own17 W M g lv mv kv vv) : k < w.heap.size := by
  rcases h.types hk with rfl | ⟨c, e, h1, _⟩
  · obtain ⟨es, clk, hM, _⟩ := h.mem.hM
    exact lt_of_heap hM
  · exact lt_of_heap h1
/-- The other world, beside an op of the first. -/
theorem World17.beside {w w' : World} {W1 W2 X M g1 g2 : Nat} {lv1 mv1 kv1 vv1 lv2 mv2 kv2 vv2 : Value} {ls1 ms1 ls2 ms2 : List Nat} {ps1 ps2 : List ByteArray} {A A' B1 B2 : List Kv} {N : Nat}
    (h1 : World17 w W1 X M g1 lv1 mv1 kv1 vv1 ls1 ms1 ps1 A B1 N) (h2 : World17 w W2 X M g2 lv2 mv2 kv2 vv2 ls2 ms2 ps2 A B2 N) (sep : ∀ k ∈ own17 W1 M g1 lv1 mv1 kv1 vv1, k ∈ own17 W2 M g2 lv2 mv2 kv2 vv2 → k = M)
    (ht : Tch (own17 W1 M g1 lv1 mv1 kv1 vv1) w w') (hM : MemAt w' X M A') (hA : ∀ p ∈ ps2, Agrees p A' A) (la : A'.length ≤ N + 1) : World17 w' W2 X M g2 lv2 mv2 kv2 vv2 ls2 ms2 ps2 A' B2 (N + 1) := by
  obtain ⟨es, clk, hMM, _⟩ := h1.mem.hM
  have nc : ∀ {k : Nat} {c : Array Value} {e : TypeId} {fr : Nat × Nat}, w.heap[k]? = some (.cells c e fr) → k ≠ M := fun {k c e fr} hk e1 => by
    rw [e1, hMM] at hk; cases hk
  have nv : ∀ {k : Nat} {c : Array Value} {e : TypeId} {fr : Nat × Nat}, w.heap[k]? = some (.cells c e fr) → (e = 55 ∨ e = 46 ∨ e = 51) → k ∉ own17 W1 M g1 lv1 mv1 kv1 vv1 := fun {k c e fr} hk he hm => by
    rcases h1.types hm with e1 | ⟨c', e', e1, n1, n2, n3⟩
    · exact nc hk e1
    · rw [hk] at e1
      simp at e1
      obtain ⟨_, rfl, _⟩ := e1
      rcases he with he | he | he
      · exact n1 he
      · exact n2 he
      · exact n3 he
  have no : ∀ {k : Nat} {c : Array Value} {e : TypeId} {fr : Nat × Nat}, w.heap[k]? = some (.cells c e fr) → k ∈ own17 W2 M g2 lv2 mv2 kv2 vv2 → k ∉ own17 W1 M g1 lv1 mv1 kv1 vv1 := fun hk h3 hm => nc hk (sep _ hm h3)
  have m4 : ∀ k ∈ lv2.ownBlock.toList, k ∈ own17 W2 M g2 lv2 mv2 kv2 vv2 := fun k hk => by unfold own17; simp only [List.mem_cons, List.mem_append]; exact .inr (.inr (.inr (.inl hk)))
  have m5 : ∀ k ∈ mv2.ownBlock.toList, k ∈ own17 W2 M g2 lv2 mv2 kv2 vv2 := fun k hk => by unfold own17; simp only [List.mem_cons, List.mem_append]; exact .inr (.inr (.inr (.inr (.inl hk))))
  have m6 : ∀ k ∈ kv2.ownBlock.toList, k ∈ own17 W2 M g2 lv2 mv2 kv2 vv2 := fun k hk => by unfold own17; simp only [List.mem_cons, List.mem_append]; exact .inr (.inr (.inr (.inr (.inr (.inl hk)))))
  have m7 : ∀ k ∈ vv2.ownBlock.toList, k ∈ own17 W2 M g2 lv2 mv2 kv2 vv2 := fun k hk => by unfold own17; simp only [List.mem_cons, List.mem_append]; exact .inr (.inr (.inr (.inr (.inr (.inr hk)))))
  refine ⟨ht.heap h2.hW (no h2.hW (by unfold own17; simp)), h2.hl.kept ht fun k hk => ?_, h2.hm.kept ht fun k hk => ?_, fun i b p e1 e2 => (h2.views i b p e1 e2).touch ht (nv (h2.views i b p e1 e2) (.inl rfl)), fun i b p e1 e2 => (h2.twins i b p e1 e2).touch ht (nv (h2.twins i b p e1 e2) (.inr (.inl rfl))), h2.ll, h2.lm, h2.n1, h2.n2, h2.pp, hM, ?_, ?_, h2.sz, la, Nat.le_succ_of_le h2.lb⟩
  · obtain ⟨c, hc⟩ := ptrs_type h2.hl k (by rw [hk]; simp)
    exact no hc (m4 k (by rw [hk]; simp))
  · obtain ⟨c, hc⟩ := ptrs_type h2.hm k (by rw [hk]; simp)
    exact no hc (m5 k (by rw [hk]; simp))
  · refine h2.bk.touch ht (no h2.bk.hg (by unfold own17; simp)) (fun k hk => ?_) (fun k hk => ?_)
    · obtain ⟨c, hc⟩ := ptrs_type h2.bk.hk k hk
      exact no hc (m6 k hk)
    · obtain ⟨c, hc⟩ := ptrs_type h2.bk.hv k hk
      exact no hc (m7 k hk)
  · intro p hp k hk
    rw [hA p hp k hk]
    exact h2.ag p hp k hk
/-- Two worlds, apart. -/
def Duo17 (w wx : World) (X M W1 g1 W2 g2 : Nat) (one two : ByteArray) (N : Nat) : Prop :=
  ∃ A lv1 mv1 kv1 vv1 ls1 ms1 ps1 B1 lv2 mv2 kv2 vv2 ls2 ms2 ps2 B2, World17 wx W1 X M g1 lv1 mv1 kv1 vv1 ls1 ms1 ps1 A B1 N ∧ World17 wx W2 X M g2 lv2 mv2 kv2 vv2 ls2 ms2 ps2 A B2 N ∧ Tch [] w wx ∧
    (∀ k ∈ own17 W1 M g1 lv1 mv1 kv1 vv1, w.heap.size ≤ k) ∧ (∀ k ∈ own17 W2 M g2 lv2 mv2 kv2 vv2, w.heap.size ≤ k) ∧ (∀ k ∈ own17 W1 M g1 lv1 mv1 kv1 vv1, k ∈ own17 W2 M g2 lv2 mv2 kv2 vv2 → k = M) ∧ (∀ p ∈ ps1, begins p one = true) ∧ (∀ p ∈ ps2, begins p two = true)
theorem Duo17.swap {w wx : World} {X M W1 g1 W2 g2 : Nat} {one two : ByteArray} {N : Nat} (h : Duo17 w wx X M W1 g1 W2 g2 one two N) : Duo17 w wx X M W2 g2 W1 g1 two one N := by
  obtain ⟨A, lv1, mv1, kv1, vv1, ls1, ms1, ps1, B1, lv2, mv2, kv2, vv2, ls2, ms2, ps2, B2, h1, h2, h3, h4, h5, h6, h7, h8⟩ := h
  exact ⟨A, lv2, mv2, kv2, vv2, ls2, ms2, ps2, B2, lv1, mv1, kv1, vv1, ls1, ms1, ps1, B1, h2, h1, h3, h5, h4, fun k k1 k2 => h6 k k2 k1, h8, h7⟩
theorem Duo17.old {w wx wy : World} {X M W1 g1 W2 g2 : Nat} {one two : ByteArray} {N : Nat} (h : Duo17 w wx X M W1 g1 W2 g2 one two N) (ht : Tch [] wx wy) : Duo17 w wy X M W1 g1 W2 g2 one two N := by
  obtain ⟨A, lv1, mv1, kv1, vv1, ls1, ms1, ps1, B1, lv2, mv2, kv2, vv2, ls2, ms2, ps2, B2, h1, h2, h3, h4⟩ := h
  exact ⟨A, lv1, mv1, kv1, vv1, ls1, ms1, ps1, B1, lv2, mv2, kv2, vv2, ls2, ms2, ps2, B2, h1.old ht, h2.old ht, h3.trans ht, h4⟩
theorem Duo17.more {w wx : World} {X M W1 g1 W2 g2 : Nat} {one two : ByteArray} {N N' : Nat} (h : Duo17 w wx X M W1 g1 W2 g2 one two N) (hn : N ≤ N') : Duo17 w wx X M W1 g1 W2 g2 one two N' := by
  obtain ⟨A, lv1, mv1, kv1, vv1, ls1, ms1, ps1, B1, lv2, mv2, kv2, vv2, ls2, ms2, ps2, B2, h1, h2, h3⟩ := h
  exact ⟨A, lv1, mv1, kv1, vv1, ls1, ms1, ps1, B1, lv2, mv2, kv2, vv2, ls2, ms2, ps2, B2, h1.more hn, h2.more hn, h3⟩
theorem Duo17.tch {w wx : World} {X M W1 g1 W2 g2 : Nat} {one two : ByteArray} {N : Nat} (h : Duo17 w wx X M W1 g1 W2 g2 one two N) : Tch [] w wx := by
  obtain ⟨A, lv1, mv1, kv1, vv1, ls1, ms1, ps1, B1, lv2, mv2, kv2, vv2, ls2, ms2, ps2, B2, h1, h2, h3, _⟩ := h
  exact h3
/-- An op of the first. -/
theorem Duo17.does {w wx : World} {X M W1 g1 W2 g2 : Nat} {one two : ByteArray} {N : Nat} (h : Duo17 w wx X M W1 g1 W2 g2 one two N) (n1 : begins one two = false) (n2 : begins two one = false) (hN : N < 100000) (o : OpV17) (hf : o.Fits) (h6 : o.what ≠ 6) :
    Calls Try.prog 7 #[.pointer (some ⟨W1, 0, none⟩), .agg o.cells] wx fun e w' => e = .returned (.bool true) ∧ Duo17 w w' X M W1 g1 W2 g2 one two (N + 1) := by
  obtain ⟨A, lv1, mv1, kv1, vv1, ls1, ms1, ps1, B1, lv2, mv2, kv2, vv2, ls2, ms2, ps2, B2, h1, h2, h3, h4, h5, h7, h8, h9⟩ := h
  refine (does17_out h1 hN o hf h6).mono fun e w' ⟨he, hout⟩ => ⟨he, ?_⟩
  obtain ⟨lv1', mv1', kv1', vv1', ls1', ms1', ps1', A', B1', q1, q2, q3, q4, q5⟩ := hout
  have hA : ∀ p ∈ ps2, Agrees p A' A := fun p hp k hk => q4 k fun q hq => by
    cases hb : begins k q with
    | false => rfl
    | true =>
      exfalso
      rcases begins_both (begins_trans hk (h9 p hp)) (begins_trans hb (h8 q hq)) with e | e
      · rw [n2] at e; cases e
      · rw [n1] at e; cases e
  refine ⟨A', lv1', mv1', kv1', vv1', ls1', ms1', ps1', B1', lv2, mv2, kv2, vv2, ls2, ms2, ps2, B2, q1, h1.beside h2 h7 q2 q1.mem hA q1.la, ((h3.mono (by simp)).trans q2).drop fun k hk => .inr (h4 k hk), fun k hk => (q3 k hk).elim (h4 k) fun h => Nat.le_trans h3.size h, h5, fun k k1 k2 => ?_, ?_, h9⟩
  · rcases q3 k k1 with e | e
    · exact h7 k e k2
    · have := h2.lt k2
      omega
  · intro p hp
    rcases q5 with rfl | q5
    · exact h8 p hp
    · obtain ⟨q, hq, hb⟩ := q5 p hp
      exact begins_trans hb (h8 q hq)
theorem Duo17.holds {w wx : World} {X M W1 g1 W2 g2 : Nat} {one two : ByteArray} {N : Nat} (h : Duo17 w wx X M W1 g1 W2 g2 one two N) (hN : N < 100000) :
    Calls Try.prog 8 #[.pointer (some ⟨W1, 0, none⟩)] wx fun e w' => e = .returned (.bool true) ∧ Tch [] wx w' := by
  obtain ⟨A, lv1, mv1, kv1, vv1, ls1, ms1, ps1, B1, lv2, mv2, kv2, vv2, ls2, ms2, ps2, B2, h1, _⟩ := h
  exact holds17_any h1 hN
end Go.Proofs.Ytcdgeeoajhbneaa
