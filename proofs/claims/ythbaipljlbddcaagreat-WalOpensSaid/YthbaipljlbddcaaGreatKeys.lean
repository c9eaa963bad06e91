/-
  Lists of numbers: the keys of a map of arrays, sorted.
-/
import Derived.Test.YthbaipljlbddcaaGreatRefAll
import Derived.Test.YthbaipljlbddcaaGreatLogM
import Derived.Test.YthbaipljlbddcaaGreatGrow
namespace Go.Proofs.YthbaipljlbddcaaGreat
open Go.RowKit Go.Cib
section
variable {n : Nat}
def keysOf (N : Nat) (f : Int → Option (Arr n)) : List Int := ((List.range N).map (fun (i : Nat) => (i : Int))).filter fun i => (f i).isSome
theorem map_arr_inj {f g : Int → Option (Arr n)} (h : (fun i => (g i).map fun s => Value.agg (secA s)) = fun i => (f i).map fun s => Value.agg (secA s)) : g = f := by
  funext i
  have := congrFun h i
  cases hg : g i <;> cases hf : f i <;> simp_all
  exact secA_inj this
theorem upd_arr (g : Int → Option (Arr n)) (k : Int) (s : Arr n) : upd (fun i => (g i).map fun s => Value.agg (secA s)) k (.agg (secA s)) = fun i => ((fun j => if j = k then some s else g j) i).map fun s => Value.agg (secA s) := by
  funext i
  simp only [upd]
  by_cases e : i = k <;> simp [e]
theorem keys_mem (f : Int → Option (Arr n)) (N : Nat) (hsup : ∀ i s, f i = some s → 0 ≤ i ∧ i < N) (k : Int) : k ∈ (keysOf N f) ↔ (f k).isSome = true := by
  unfold keysOf
  rw [List.mem_filter, List.mem_map]
  constructor
  · exact fun h => h.2
  · intro h
    refine ⟨?_, h⟩
    obtain ⟨s, hs⟩ := Option.isSome_iff_exists.1 h
    have := hsup k s hs
    exact ⟨k.toNat, List.mem_range.2 (by omega), by omega⟩
theorem keys_sorted (f : Int → Option (Arr n)) (N : Nat) : (keysOf N f).Pairwise (· < ·) := by
  unfold keysOf
  refine List.Pairwise.filter _ (List.pairwise_map.2 ?_)
  exact List.pairwise_lt_range.imp fun h => by omega
theorem keys_nodup (f : Int → Option (Arr n)) (N : Nat) : (keysOf N f).Nodup := (keys_sorted f N).imp fun h => by omega
theorem keys_len (f : Int → Option (Arr n)) (N : Nat) : (keysOf N f).length ≤ N := by
  unfold keysOf
  exact Nat.le_trans (List.length_filter_le _ _) (by simp)
/-- Whatever order they came in: sorted they are the document's list. -/
theorem sorted_keys (f : Int → Option (Arr n)) (N : Nat) (hsup : ∀ i s, f i = some s → 0 ≤ i ∧ i < N) (l : List Int) (hn : l.Nodup) (hm : ∀ k, k ∈ l ↔ (f k).isSome = true) : (l.mergeSort fun x y => decide (x ≤ y)) = (keysOf N f) ∧ l.length = (keysOf N f).length := by
  have hp : l.Perm (keysOf N f) := (List.perm_ext_iff_of_nodup hn (keys_nodup f N)).2 fun k => by rw [hm, keys_mem f N hsup]
  refine ⟨?_, hp.length_eq⟩
  have h1 : (l.mergeSort fun x y => decide (x ≤ y)).Pairwise (· ≤ ·) := by
    have := List.pairwise_mergeSort (le := fun (x y : Int) => decide (x ≤ y)) (by intro a b c; simp; omega) (by intro a b; simp; omega) l
    exact this.imp fun h => by simpa using h
  exact List.Perm.eq_of_pairwise (le := (· ≤ ·)) (fun a b _ _ h1 h2 => by omega) h1 ((keys_sorted f N).imp fun h => by omega) ((List.mergeSort_perm l _).trans hp)

/-- What the loop of Pending has gathered. -/
def KeyRel (w0 : World) (M R : Nat) (f : Int → Option (Arr n)) (cnt : Nat) (v : Value) (wr : World) : Prop :=
  ∃ (g : Int → Option (Arr n)) (l : List Int), IterAt kInt wr R M (fun i => (f i).map fun s => .agg (secA s)) (fun i => (g i).map fun s => .agg (secA s)) cnt ∧
    OwnInts wr w0.heap.size 3 v l ∧ l.Nodup ∧ (∀ k, k ∈ l ↔ (g k).isSome = true) ∧ (∀ k s, g k = some s → f k = some s) ∧ Tch [] w0 wr

theorem keys_len1 {f : Int → Option (Arr n)} {N : Nat} (hsup : ∀ i s, f i = some s → 0 ≤ i ∧ i < N) (hN : N ≤ 16384) {g : Int → Option (Arr n)} {l : List Int} (hn : l.Nodup) (hm : ∀ k, k ∈ l ↔ (g k).isSome = true) (hg : ∀ k s, g k = some s → f k = some s) : l.length ≤ 16384 := by
  have hsub : l.Perm ((keysOf N f).filter fun k => (g k).isSome) := by
    refine (List.perm_ext_iff_of_nodup hn ((keys_nodup f N).filter _)).2 fun k => ?_
    rw [List.mem_filter, hm, keys_mem f N hsup]
    constructor
    · intro h
      obtain ⟨s, hs⟩ := Option.isSome_iff_exists.1 h
      exact ⟨by rw [hg k s hs]; rfl, h⟩
    · exact fun h => h.2
  have h1 := hsub.length_eq
  have h2 := List.length_filter_le (fun k => (g k).isSome) (keysOf N f)
  have h3 := keys_len f N
  have h4 := hN
  omega

theorem own_iterA {w0 wr w4 : World} {R M : Nat} {f g : Int → Option Value} {cnt : Nat} {v : Value} {l : List Int} (ho : OwnInts wr w0.heap.size 3 v l) (hi : IterAt kInt wr R M f g cnt) (ht : Tch [R] wr w4) (o : Obj) : OwnInts (w4.alloc o) w0.heap.size 3 v l := by
  obtain ⟨es, clk, seen, h1, h2, h3, _⟩ := hi
  have hne := ho.ne h3 (by simp)
  exact (ho.kept ht (fun k hk hm => hne (by simp at hm; subst hm; rw [hk]; simp))).kept ((Tch.refl [] _).alloc _) (by simp)
theorem iter_ownA {w5 w6 : World} {R M B : Nat} {f g : Int → Option Value} {cnt : Nat} {v : Value} {l : List Int} (hi : IterAt kInt w5 R M f g cnt) (ho : OwnInts w5 B 3 v l) (ht : Tch v.ownBlock.toList w5 w6) : IterAt kInt w6 R M f g cnt := by
  have hi' := hi
  obtain ⟨es, clk, seen, h1, h2, h3, _⟩ := hi'
  exact hi.touch ht (ho.ne h3 (by simp)) (ho.ne h1 (by simp))
theorem KeyRel.next {w0 wr w4 w6 : World} {M R : Nat} {f : Int → Option (Arr n)} {cnt cnt4 : Nat} {v v6 : Value} {g : Int → Option (Arr n)} {l : List Int} {kk : Int} {s : Arr n}
    (hi : IterAt kInt wr R M (fun i => (f i).map fun s => .agg (secA s)) (fun i => (g i).map fun s => .agg (secA s)) cnt) (ho : OwnInts wr w0.heap.size 3 v l) (hn : l.Nodup) (hm : ∀ k, k ∈ l ↔ (g k).isSome = true) (hg : ∀ k s, g k = some s → f k = some s) (ht : Tch [] w0 wr)
    (hR : w0.heap.size ≤ R) (hs : f kk = some s) (hgk : ((g kk).map fun s => Value.agg (secA s)) = none) (t4 : Tch [R] wr w4) (i4 : IterAt kInt w4 R M (fun i => (f i).map fun s => .agg (secA s)) (upd (fun i => (g i).map fun s => .agg (secA s)) kk (.agg (secA s))) cnt4) (o : Obj)
    (o6 : OwnInts w6 w0.heap.size 3 v6 (l ++ [kk])) (t6 : Tch v.ownBlock.toList (w4.alloc o) w6) : KeyRel w0 M R f cnt4 v6 w6 := by
  have hgn : g kk = none := by cases h : g kk with | none => rfl | some x => simp [h] at hgk
  have own5 := own_iterA ho hi t4 o
  have i5 := i4.touch ((Tch.refl [] w4).alloc o) (by simp) (by simp)
  rw [upd_arr] at i5
  refine ⟨fun j => if j = kk then some s else g j, l ++ [kk], iter_ownA i5 own5 t6, o6, ?_, ?_, ?_, ?_⟩
  · refine List.nodup_append.2 ⟨hn, by simp, ?_⟩
    intro a ha b hb
    simp at hb
    subst hb
    rintro rfl
    have := (hm a).1 ha
    rw [hgn] at this
    cases this
  · intro k
    by_cases e : k = kk
    · simp [e]
    · simp [e, hm]
  · intro k u hk
    by_cases e : k = kk
    · subst e; simp at hk; subst hk; exact hs
    · simp only [e, if_false] at hk; exact hg k u hk
  · have h1 : Tch [R] w0 w4 := (ht.mono (by simp)).trans t4
    have h2 : Tch (R :: v.ownBlock.toList) w0 w6 := ((h1.mono (by simp)).alloc o).trans (t6.mono (fun k hk => List.mem_cons_of_mem _ hk))
    refine h2.drop (fun k hk => ?_)
    rcases List.mem_cons.1 hk with rfl | hk
    · exact .inr hR
    · exact .inr (own5.lt k hk).1

end
theorem keys_kept (S : LogS) : keysOf S.pages S.over = S.kept.map fun q => (q.1 : Int) := by
  unfold keysOf LogS.kept
  generalize List.range S.pages = r
  induction r with
  | nil => rfl
  | cons p r ih =>
    rw [List.map_cons, List.filter_cons, List.filterMap_cons]
    cases h : S.over (p : Int) with
    | none => simpa [h] using ih
    | some x => simpa [h] using ih
theorem kept_over (S : LogS) : ∀ q ∈ S.kept, S.over (q.1 : Int) = some q.2 ∧ q.1 < S.pages := by
  intro q hq
  unfold LogS.kept at hq
  obtain ⟨p, hp, h⟩ := List.mem_filterMap.1 hq
  obtain ⟨x, hx, rfl⟩ := Option.map_eq_some_iff.1 h
  exact ⟨hx, List.mem_range.1 hp⟩
theorem kept_len (S : LogS) : S.kept.length ≤ S.pages := by
  unfold LogS.kept
  exact Nat.le_trans (List.length_filterMap_le _ _) (by simp)
end Go.Proofs.YthbaipljlbddcaaGreat
