/-
  The document's book in memory: Set and Delete.
-/
import Derived.Test.YtcdgeeoajhbneaaGreatBookA
namespace Go.Proofs.YtcdgeeoajhbneaaGreat
open Go.RowKit Go.Cib
theorem own_on {w wa wb : World} {B : Nat} {e : TypeId} {v : Value} {l : List Value} (T : Tch [] w wa) (h : OwnVals wa B e v l) (hB : w.heap.size ≤ B) (ht : Tch v.ownBlock.toList wa wb) : Tch [] w wb :=
  tch_own T ht fun k hk => Nat.le_trans hB (h.lt k hk).1
theorem strs_one (l : List ByteArray) : ∀ u ∈ l.map Value.string, u.oneCell' = true := by
  intro u hu
  obtain ⟨x, _, rfl⟩ := List.mem_map.1 hu
  rfl
theorem one_str (s : ByteArray) : ∀ u ∈ [Value.string s], u.oneCell' = true := by
  intro u hu
  simp only [List.mem_singleton] at hu
  subst hu
  rfl
theorem strs_take (l : List ByteArray) (i : Nat) : ∀ u ∈ (l.map Value.string).take i, u.oneCell' = true := fun u hu => strs_one l u (List.mem_of_mem_take hu)
theorem strs_drop (l : List ByteArray) (i : Nat) : ∀ u ∈ (l.map Value.string).drop i, u.oneCell' = true := fun u hu => strs_one l u (List.mem_of_mem_drop hu)
theorem cell_one_at (w : World) (x : Value) (t : TypeId) : (w.alloc (.cells #[x] t)).cell? ⟨w.heap.size, 0, none⟩ = some x := (cell_of_row _ _ 0 _ _ _ (heap_alloc_new w _)).trans rfl
theorem one_valsV {w : World} {b : Nat} {x : Value} (h : w.cell? ⟨b, 0, none⟩ = some x) : ValsV w (.slice (some ⟨b, 0, none⟩) 1 1) [x] :=
  ⟨_, _, rfl, fun j v hj => by
    match j, hj with
    | 0, hj => cases hj; exact ⟨b, 0, rfl, h⟩⟩
end Go.Proofs.YtcdgeeoajhbneaaGreat
