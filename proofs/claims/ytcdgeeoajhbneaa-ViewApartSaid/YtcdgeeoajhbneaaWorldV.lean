/-
  Views and their twins by the document, in memory: ciboriumlaw17's world: what holds of it; does, of a Get, a Put, a Delete.
-/
import Derived.Test.YtcdgeeoajhbneaaViewB
import Derived.Test.YtcdgeeoajhbneaaViewR
namespace Go.Cib
open Go
/-- Two books that say the same of all keys that begin with a prefix. -/
def Agrees (p : ByteArray) (A B : List Kv) : Prop := ∀ k, begins k p = true → get A k = get B k
theorem begins_pre (p k : ByteArray) : begins (p ++ k) p = true := by
  unfold begins
  rw [List.isPrefixOf_iff_prefix, tl_append]
  exact List.prefix_append _ _
theorem Agrees.vget {p : ByteArray} {A B : List Kv} (h : Agrees p A B) (key : ByteArray) : vget A p key = vget B p key := by
  unfold Cib.vget
  rw [h _ (begins_pre p key)]
theorem Agrees.is {p : ByteArray} {A B : List Kv} (h : Agrees p A B) (key : ByteArray) : Cib.is A (p ++ key) = Cib.is B (p ++ key) := by
  rw [is_get, is_get, h _ (begins_pre p key)]
theorem Agrees.put {q : ByteArray} {A B : List Kv} (hA : Rising A) (hB : Rising B) (h : Agrees q A B) (k v : ByteArray) : Agrees q (put A k v) (put B k v) := fun j hj => by
  rw [get_put hA, get_put hB, h j hj]
theorem Agrees.del {q : ByteArray} {A B : List Kv} (hA : Rising A) (hB : Rising B) (h : Agrees q A B) (k : ByteArray) : Agrees q (del A k) (del B k) := fun j hj => by
  rw [get_del hA, get_del hB, h j hj]
theorem Agrees.vput {q p : ByteArray} {A B : List Kv} (hA : Rising A) (hB : Rising B) (h : Agrees q A B) (k v : ByteArray) : Agrees q (vput A p k v).2 (vput B p k v).2 ∧ (vput A p k v).1 = (vput B p k v).1 := by
  unfold Cib.vput
  split
  · split
    · exact ⟨h, rfl⟩
    · exact ⟨h.put hA hB _ _, rfl⟩
  · exact ⟨h, rfl⟩
theorem Agrees.vdel {q p : ByteArray} {A B : List Kv} (hA : Rising A) (hB : Rising B) (h : Agrees q A B) (k : ByteArray) : Agrees q (vdel A p k).2.2 (vdel B p k).2.2 := by
  unfold Cib.vdel
  split
  · exact h.del hA hB _
  · exact h
theorem Agrees.vdel1 {p : ByteArray} {A B : List Kv} (h : Agrees p A B) (k : ByteArray) : (Cib.vdel A p k).1 = (Cib.vdel B p k).1 ∧ (Cib.vdel A p k).2.1 = (Cib.vdel B p k).2.1 := by
  unfold Cib.vdel
  split
  · exact ⟨h.is k, rfl⟩
  · exact ⟨rfl, rfl⟩
theorem rising_ext {A B : List ByteArray} (hA : A.Pairwise fun a b => blt a b = true) (hB : B.Pairwise fun a b => blt a b = true) (h : ∀ k, k ∈ A ↔ k ∈ B) : A = B := by
  have nA : A.Nodup := hA.imp fun h => blt_ne h
  have nB : B.Nodup := hB.imp fun h => blt_ne h
  have hp : A.Perm B := (List.perm_ext_iff_of_nodup nA nB).2 h
  exact List.Perm.eq_of_pairwise (le := fun a b => blt a b = true) (fun a b _ _ h1 h2 => by rw [blt_asymm h1] at h2; cases h2) hA hB hp
theorem Agrees.vlist {p : ByteArray} {A B : List Kv} (hA : Rising A) (hB : Rising B) (h : Agrees p A B) (pre after : ByteArray) (m : Nat) : vlist A p pre after m = vlist B p pre after m := by
  unfold Cib.vlist listed
  congr 2
  have kA : (A.map (·.1)).Pairwise fun a b => blt a b = true := List.pairwise_map.2 hA
  have kB : (B.map (·.1)).Pairwise fun a b => blt a b = true := List.pairwise_map.2 hB
  refine rising_ext (kA.filter _) (kB.filter _) fun k => ?_
  have mem : ∀ {C : List Kv}, Rising C → (k ∈ C.map (·.1) ↔ (get C k).isSome = true) := fun {C} hC => by
    rw [← is_get, is_mem hC, List.mem_map]
    constructor
    · rintro ⟨e, he, rfl⟩; exact ⟨e.2, he⟩
    · rintro ⟨v, hv⟩; exact ⟨_, hv, rfl⟩
  rw [List.mem_filter, List.mem_filter, mem hA, mem hB]
  constructor
  · rintro ⟨h1, h2⟩
    have := h2
    rw [Bool.and_eq_true] at this
    exact ⟨by rw [← h k (begins_append this.1)]; exact h1, h2⟩
  · rintro ⟨h1, h2⟩
    have := h2
    rw [Bool.and_eq_true] at this
    exact ⟨by rw [h k (begins_append this.1)]; exact h1, h2⟩
theorem Agrees.vclear {q p : ByteArray} : ∀ (ks : List ByteArray) {A B : List Kv}, Rising A → Rising B → Agrees q A B → Agrees q (vclear A p ks) (vclear B p ks)
  | [], _, _, _, _, h => h
  | _ :: ks, _, _, hA, hB, h => Agrees.vclear ks (hA.del _) (hB.del _) (h.del hA hB _)
/-- All of a list. -/
theorem vlist_all (B : List Kv) (p pre after : ByteArray) (m : Nat) (h : B.length ≤ m) : vlist B p pre after m = vlist B p pre after B.length := by
  unfold vlist listed
  congr 1
  have h1 := List.length_filter_le (fun k => begins k (p ++ pre) && blt (p ++ after) k) (B.map (·.1))
  rw [List.length_map] at h1
  rw [List.take_of_length_le (by omega), List.take_of_length_le (by omega)]
/-- What stays as it is where other keys are written. -/
theorem get_put_other {A : List Kv} (hA : Rising A) {p key v j : ByteArray} (hj : begins j p = false) : get (put A (p ++ key) v) j = get A j := by
  rw [get_put hA, if_neg]
  rintro rfl
  rw [begins_pre] at hj; cases hj
theorem get_del_other {A : List Kv} (hA : Rising A) {p key j : ByteArray} (hj : begins j p = false) : get (del A (p ++ key)) j = get A j := by
  rw [get_del hA, if_neg]
  rintro rfl
  rw [begins_pre] at hj; cases hj
theorem get_vput_other {A : List Kv} (hA : Rising A) {p key v j : ByteArray} (hj : begins j p = false) : get (vput A p key v).2 j = get A j := by
  unfold vput
  split
  · split
    · rfl
    · exact get_put_other hA hj
  · rfl
theorem get_vdel_other {A : List Kv} (hA : Rising A) {p key j : ByteArray} (hj : begins j p = false) : get (vdel A p key).2.2 j = get A j := by
  unfold vdel
  split
  · exact get_del_other hA hj
  · rfl
theorem get_vclear_other {p j : ByteArray} (hj : begins j p = false) : ∀ (ks : List ByteArray) {A : List Kv}, Rising A → get (vclear A p ks) j = get A j
  | [], _, _ => rfl
  | _ :: ks, _, hA => (get_vclear_other hj ks (hA.del _)).trans (get_del_other hA hj)
theorem vput_len (A : List Kv) (p k v : ByteArray) : (vput A p k v).2.length ≤ A.length + 1 := by
  unfold vput
  split
  · split
    · exact Nat.le_succ _
    · exact length_put _ _ _
  · exact Nat.le_succ _
theorem vdel_len (A : List Kv) (p k : ByteArray) : (vdel A p k).2.2.length ≤ A.length := by
  unfold vdel
  split
  · exact length_del _ _
  · exact Nat.le_refl _
theorem vput_sz {A : List Kv} (hA : Rising A) {p k v : ByteArray} (h : ∀ e ∈ A, e.1.size ≤ 198) : ∀ e ∈ (vput A p k v).2, e.1.size ≤ 198 := by
  intro e he
  unfold vput at he
  split at he
  · rename_i hv
    split at he
    · exact h e he
    · rcases (mem_put hA).1 he with rfl | ⟨he, _⟩
      · unfold vkey at hv
        simp only [decide_eq_true_eq] at hv
        have e : (p ++ k).size = p.size + k.size := by
          show (tl (p ++ k)).length = _
          rw [tl_append, List.length_append]; rfl
        show (p ++ k).size ≤ 198
        omega
      · exact h e he
  · exact h e he
theorem vdel_sz {A : List Kv} (hA : Rising A) {p k : ByteArray} (h : ∀ e ∈ A, e.1.size ≤ 198) : ∀ e ∈ (vdel A p k).2.2, e.1.size ≤ 198 := by
  intro e he
  unfold vdel at he
  split at he
  · exact h e ((mem_del hA).1 he).1
  · exact h e he
end Go.Cib
namespace Go.Proofs.Ytcdgeeoajhbneaa
open Go.RowKit Go.Cib
def ptr (b : Nat) : Value := .pointer (some ⟨b, 0, none⟩)
structure OpV17 where
  what : Int
  at_ : Int
  n : Int
  key : ByteArray
  val : ByteArray
def OpV17.cells (o : OpV17) : Array Value := #[.int .i64 o.what, .int .i64 o.at_, .int .i64 o.n, .string o.key, .string o.val]
structure OpV17.Fits (o : OpV17) : Prop where
  key : o.key.size ≤ 1000000000000000000
  val : o.val.size ≤ 1000000000000000000
/-- Views ls with twins ms under the prefixes ps: a space in memory, and the document's book. -/
structure World17 (w : World) (W X M g : Nat) (lv mv kv vv : Value) (ls ms : List Nat) (ps : List ByteArray) (A B : List Kv) (N : Nat) : Prop where
  hW : w.heap[W]? = some (.cells #[lv, mv] 31)
  hl : OwnVals w 0 24 lv (ls.map ptr)
  hm : OwnVals w 0 27 mv (ms.map ptr)
  views : ∀ (i : Nat) b p, ls[i]? = some b → ps[i]? = some p → ViewAt w b X p
  twins : ∀ (i : Nat) b p, ms[i]? = some b → ps[i]? = some p → RViewAt w b g p
  ll : ls.length = ps.length
  lm : ms.length = ps.length
  n1 : 1 ≤ ps.length
  n2 : ps.length ≤ 12
  pp : ∀ p ∈ ps, p.size ≤ 100
  mem : MemAt w X M A
  bk : BookAt w g kv vv B
  ag : ∀ p ∈ ps, Agrees p A B
  sz : ∀ e ∈ B, e.1.size ≤ 198
  la : A.length ≤ N
  lb : B.length ≤ N
/-- The blocks that such a world may write. -/
def own17 (W M g : Nat) (lv mv kv vv : Value) : List Nat := W :: M :: g :: (lv.ownBlock.toList ++ (mv.ownBlock.toList ++ (kv.ownBlock.toList ++ vv.ownBlock.toList)))
theorem World17.old {w w' : World} {W X M g : Nat} {lv mv kv vv : Value} {ls ms : List Nat} {ps : List ByteArray} {A B : List Kv} {N : Nat} (h : World17 w W X M g lv mv kv vv ls ms ps A B N) (ht : Tch [] w w') : World17 w' W X M g lv mv kv vv ls ms ps A B N :=
  ⟨ht.heap h.hW (by simp), h.hl.kept ht (by simp), h.hm.kept ht (by simp), fun i b p h1 h2 => (h.views i b p h1 h2).touch ht (by simp), fun i b p h1 h2 => (h.twins i b p h1 h2).touch ht (by simp), h.ll, h.lm, h.n1, h.n2, h.pp, h.mem.old ht, h.bk.old ht, h.ag, h.sz, h.la, h.lb⟩
/-- Behind an op. -/
def Out17 (w : World) (W X M g : Nat) (lv mv kv vv : Value) (ps : List ByteArray) (A : List Kv) (N : Nat) (w' : World) : Prop :=
  ∃ lv' mv' kv' vv' ls' ms' ps' A' B', World17 w' W X M g lv' mv' kv' vv' ls' ms' ps' A' B' (N + 1) ∧ Tch (own17 W M g lv mv kv vv) w w' ∧ (∀ k ∈ own17 W M g lv' mv' kv' vv', k ∈ own17 W M g lv mv kv vv ∨ w.heap.size ≤ k) ∧
    (∀ k, (∀ p ∈ ps, begins k p = false) → get A' k = get A k) ∧ (ps' = ps ∨ ∀ p ∈ ps', ∃ q ∈ ps, begins p q = true)
theorem World17.more {w : World} {W X M g : Nat} {lv mv kv vv : Value} {ls ms : List Nat} {ps : List ByteArray} {A B : List Kv} {N N' : Nat} (h : World17 w W X M g lv mv kv vv ls ms ps A B N) (hn : N ≤ N') : World17 w W X M g lv mv kv vv ls ms ps A B N' :=
  { h with la := Nat.le_trans h.la hn, lb := Nat.le_trans h.lb hn }
/-- Nothing was written. -/
theorem World17.same {w w' : World} {W X M g : Nat} {lv mv kv vv : Value} {ls ms : List Nat} {ps : List ByteArray} {A B : List Kv} {N : Nat} (h : World17 w W X M g lv mv kv vv ls ms ps A B N) (ht : Tch [] w w') : Out17 w W X M g lv mv kv vv ps A N w' :=
  ⟨lv, mv, kv, vv, ls, ms, ps, A, B, (h.old ht).more (Nat.le_succ _), ht.mono (by simp), fun k hk => .inl hk, fun _ _ => rfl, .inl rfl⟩
/-- The blocks of different kinds are apart. -/
theorem ptrs_type {w : World} {e : TypeId} {v : Value} {l : List Value} (h : OwnVals w 0 e v l) : ∀ k ∈ v.ownBlock.toList, ∃ c, w.heap[k]? = some (.cells c e) := by
  intro k hk
  rcases h.shape with ⟨e1, _⟩ | ⟨g', cap, cur, e1, _, h2, _⟩
  · rw [e1] at hk; simp [Value.ownBlock] at hk
  · rw [e1] at hk
    have : k = g' := by simpa [Value.ownBlock] using hk
    subst this
    exact ⟨cur, h2⟩
/-- The space and the book were written. -/
theorem World17.wrote {w w1 w2 : World} {W X M g : Nat} {lv mv kv vv : Value} {ls ms : List Nat} {ps : List ByteArray} {A A' B B' : List Kv} {N : Nat} (h : World17 w W X M g lv mv kv vv ls ms ps A B N)
    (h1 : MemAt w1 X M A') (t1 : Tch [M] w w1) (h2 : BookOut w1 g kv vv B' w2) (ag : ∀ p ∈ ps, Agrees p A' B') (sz : ∀ e ∈ B', e.1.size ≤ 198) (la : A'.length ≤ N + 1) (lb : B'.length ≤ N + 1) (ho : ∀ k, (∀ p ∈ ps, begins k p = false) → get A' k = get A k) : Out17 w W X M g lv mv kv vv ps A N w2 := by
  obtain ⟨kv', vv', k1, k2, k3⟩ := h2
  obtain ⟨es, clk, hM, _⟩ := h.mem.hM
  have hM1 : ∃ es clk, w1.heap[M]? = some (.map es clk) := by obtain ⟨es, clk, h3, _⟩ := h1.hM; exact ⟨es, clk, h3⟩
  have nM : ∀ {k : Nat} {c : Array Value} {e : TypeId} {fr : Nat × Nat}, w.heap[k]? = some (.cells c e fr) → k ∉ [M] := fun {k c e fr} hk hm => by
    have : k = M := by simpa using hm
    rw [this, hM] at hk; cases hk
  have hvo := h.bk.own_type
  have hgo := h.bk.hg
  have nG : ∀ {k : Nat} {c : Array Value} {e : TypeId} {fr : Nat × Nat}, w.heap[k]? = some (.cells c e fr) → e ≠ 44 → e ≠ 9 → k ∉ g :: vv.ownBlock.toList := fun {k c e fr} hk e1 e2 hm => by
    rcases List.mem_cons.1 hm with rfl | hm
    · rw [hgo] at hk; simp at hk; exact e1 hk.2.1.symm
    · obtain ⟨c', hc⟩ := hvo k hm
      rw [hc] at hk; simp at hk; exact e2 hk.2.1.symm
  have tt : ∀ {k : Nat} {c : Array Value} {e : TypeId} {fr : Nat × Nat}, w.heap[k]? = some (.cells c e fr) → e ≠ 44 → e ≠ 9 → w2.heap[k]? = some (.cells c e fr) := fun hk e1 e2 => k2.heap (t1.heap hk (nM hk)) (nG hk e1 e2)
  have tv : ∀ {e : TypeId} {v : Value} {l : List Value}, OwnVals w 0 e v l → e ≠ 44 → e ≠ 9 → OwnVals w2 0 e v l := fun {e v l} hv e1 e2 => by
    refine OwnVals.kept (OwnVals.kept hv t1 fun k hk => ?_) k2 fun k hk => ?_
    · obtain ⟨c, hc⟩ := ptrs_type hv k (by simp [hk])
      exact nM hc
    · obtain ⟨c, hc⟩ := ptrs_type hv k (by simp [hk])
      exact nG hc e1 e2
  have hXM : w2.heap[X]? = some (.cells #[.map (some M)] 51) := tt h.mem.hX (by decide) (by decide)
  have hM2 : M ∉ g :: vv.ownBlock.toList := by
    intro hm
    rcases List.mem_cons.1 hm with e | hm
    · rw [e, hgo] at hM; cases hM
    · obtain ⟨c', hc⟩ := hvo M hm
      rw [hM] at hc; cases hc
  refine ⟨lv, mv, kv', vv', ls, ms, ps, A', B', ⟨tt h.hW (by decide) (by decide), tv h.hl (by decide) (by decide), tv h.hm (by decide) (by decide), fun i b p e1 e2 => tt (h.views i b p e1 e2) (by decide) (by decide), fun i b p e1 e2 => tt (h.twins i b p e1 e2) (by decide) (by decide), h.ll, h.lm, h.n1, h.n2, h.pp, ⟨hXM, h1.hM.touch k2 hM2, h1.up, h1.len, h1.sz⟩, k1, ag, sz, la, lb⟩, ?_, ?_, ho, .inl rfl⟩
  · refine (t1.mono (by unfold own17; simp)).trans (k2.mono fun k hk => ?_)
    unfold own17
    rcases List.mem_cons.1 hk with rfl | hk
    · simp
    · simp only [List.mem_cons, List.mem_append]; exact .inr (.inr (.inr (.inr (.inr (.inr hk)))))
  · intro k hk
    unfold own17 at hk ⊢
    simp only [List.mem_cons, List.mem_append] at hk ⊢
    rcases k3 with ⟨rfl, rfl⟩ | k3
    · exact .inl hk
    · rcases hk with hk | hk | hk | hk | hk | hk | hk
      · exact .inl (.inl hk)
      · exact .inl (.inr (.inl hk))
      · exact .inl (.inr (.inr (.inl hk)))
      · exact .inl (.inr (.inr (.inr (.inl hk))))
      · exact .inl (.inr (.inr (.inr (.inr (.inl hk)))))
      · exact .inr (Nat.le_trans t1.size (k3 k (List.mem_append_left _ hk)))
      · exact .inr (Nat.le_trans t1.size (k3 k (List.mem_append_right _ hk)))
end Go.Proofs.Ytcdgeeoajhbneaa
