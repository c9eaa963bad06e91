/-
  Lists of numbers: sorting, Pending (both disks), EqInts.
-/
import Derived.Test.YtkjgbhpnlgcinaaGreatDoorMD3
import Derived.Test.YtkjgbhpnlgcinaaGreatDoorMC
import Derived.Test.YtkjgbhpnlgcinaaGreatDoorShelf
import Derived.Test.YtkjgbhpnlgcinaaGreatDoorMD3
namespace Go.Proofs.YtkjgbhpnlgcinaaGreatDoor
open Go.RowKit Go.Cib

theorem intsT : IntsT Tryz.prog 22 3 := .of (by kernel_rfl) (by kernel_rfl)

/-- What the library's sort does to a list of the call's own. -/
theorem sort_any (w : World) (B : Nat) (v : Value) (l : List Int) (h : OwnInts w B 3 v l) (hl : l.length < 4611686018427387904) :
    Calls Tryz.prog 107 #[v] w fun e w' => e = .returned (.tuple #[]) ∧ Tch v.ownBlock.toList w w' ∧ ∃ a cap, v = .slice a l.length cap ∧ IntsAt w' a (l.mergeSort fun x y => decide (x ≤ y)) := by
  rcases h.shape with ⟨rfl, rfl⟩ | ⟨g, cap, cur, rfl, hb, hg, hlc, _, hcs, htk⟩
  · refine (Tryz.slices_Sort_int_none none 0 w).mono ?_
    rintro e w' ⟨rfl, rfl⟩
    exact ⟨rfl, Tch.refl _ _, none, 0, rfl, by intro j x hj; simp at hj⟩
  · have hcell : ∀ j, j < l.length → cur[j]? = some (.int .i64 (l.toArray[j]!)) := by
      intro j hj
      have h1 : (cur.toList.take l.length)[j]? = (l.map (Value.int .i64))[j]? := by rw [htk]
      rw [List.getElem?_take, if_pos hj, Array.getElem?_toList, List.getElem?_map, List.getElem?_eq_getElem hj] at h1
      rw [h1]
      simp [hj]
    have hH : Sort.Holds (Value.int .i64) w g 0 l.toArray := by
      intro j hj
      have hj' : j < l.length := by simpa using hj
      refine ⟨?_, frozen_of_row w g _ _ _ hg⟩
      rw [cell_of_row w g _ _ _ _ hg, Nat.zero_add]
      exact hcell j hj'
    refine (Tryz.slices_Sort_int g 0 cap l w hH (lt_of_heap hg) hl).mono ?_
    rintro e w' ⟨rfl, n, os, rfl⟩
    have hsz : (l.mergeSort fun x y => decide (x ≤ y)).toArray.size = l.toArray.size := by simp
    have hother : ∀ k, k < w.heap.size → k ≠ g → (Sort.grow (Sort.putRow (Value.int .i64) (Sort.ahead w n) g 0 (l.mergeSort fun x y => decide (x ≤ y)).toArray) os).heap[k]? = w.heap[k]? := by
      intro k hk hkg
      rw [Sort.heap_grow_old _ _ (by simpa [Sort.ahead] using hk)]
      simp only [Sort.putRow, Sort.mapBlock, Sort.ahead, Array.getElem?_modify]
      rw [if_neg (fun e => hkg e.symm)]
    refine ⟨rfl, ⟨rfl, rfl, rfl, by simp [Sort.ahead], fun k hk hn => hother k hk (by simpa [Value.ownBlock] using hn)⟩, _, _, rfl, fun j x hj => ⟨g, 0, rfl, ?_⟩⟩
    have hjl : j < (l.mergeSort fun x y => decide (x ≤ y)).toArray.size := by
      have := (List.getElem?_eq_some_iff.1 hj).1
      simpa using this
    rw [Sort.cell?_grow _ _ _ (by simpa [Sort.ahead] using lt_of_heap hg)]
    rw [Sort.cell?_putRow (Value.int .i64) (Sort.ahead w n) g 0 l.toArray _ hH hsz j hjl]
    congr 2
    rw [getElem!_pos _ j hjl]
    simp only [List.getElem_toArray]
    exact (List.getElem?_eq_some_iff.1 hj).2

theorem pending_mem (D : DiskS) (ok : D.Ok) (k : Int) : k ∈ D.pending ↔ (D.waits k).isSome = true := by
  unfold DiskS.pending
  rw [List.mem_filter, List.mem_map]
  constructor
  · exact fun h => h.2
  · intro h
    refine ⟨?_, h⟩
    obtain ⟨s, hs⟩ := Option.isSome_iff_exists.1 h
    have := ok.sup k s hs
    exact ⟨k.toNat, List.mem_range.2 (by omega), by omega⟩
theorem pending_sorted (D : DiskS) : D.pending.Pairwise (· < ·) := by
  unfold DiskS.pending
  refine List.Pairwise.filter _ (List.pairwise_map.2 ?_)
  exact List.pairwise_lt_range.imp fun h => by omega
theorem pending_nodup (D : DiskS) : D.pending.Nodup := (pending_sorted D).imp fun h => by omega
theorem pending_len (D : DiskS) : D.pending.length ≤ D.lasts.length := by
  unfold DiskS.pending
  exact Nat.le_trans (List.length_filter_le _ _) (by simp)
/-- Whatever order they came in: sorted they are the document's list. -/
theorem sorted_pending (D : DiskS) (ok : D.Ok) (l : List Int) (hn : l.Nodup) (hm : ∀ k, k ∈ l ↔ (D.waits k).isSome = true) : (l.mergeSort fun x y => decide (x ≤ y)) = D.pending ∧ l.length = D.pending.length := by
  have hp : l.Perm D.pending := (List.perm_ext_iff_of_nodup hn (pending_nodup D)).2 fun k => by rw [hm, pending_mem D ok]
  refine ⟨?_, hp.length_eq⟩
  have h1 : (l.mergeSort fun x y => decide (x ≤ y)).Pairwise (· ≤ ·) := by
    have := List.pairwise_mergeSort (le := fun (x y : Int) => decide (x ≤ y)) (by intro a b c; simp; omega) (by intro a b; simp; omega) l
    exact this.imp fun h => by simpa using h
  exact List.Perm.eq_of_pairwise (le := (· ≤ ·)) (fun a b _ _ h1 h2 => by omega) h1 ((pending_sorted D).imp fun h => by omega) ((List.mergeSort_perm l _).trans hp)

/-- What the loop of Pending has gathered. -/
def PendRel (w0 : World) (M R : Nat) (D : DiskS) (cnt : Nat) (v : Value) (wr : World) : Prop :=
  ∃ (g : Int → Option Sec) (l : List Int), IterAt kInt wr R M (fun i => (D.waits i).map fun s => .agg (secA s)) (fun i => (g i).map fun s => .agg (secA s)) cnt ∧
    OwnInts wr w0.heap.size 3 v l ∧ l.Nodup ∧ (∀ k, k ∈ l ↔ (g k).isSome = true) ∧ (∀ k s, g k = some s → D.waits k = some s) ∧ Tch [] w0 wr

theorem pend_len {D : DiskS} (ok : D.Ok) {g : Int → Option Sec} {l : List Int} (hn : l.Nodup) (hm : ∀ k, k ∈ l ↔ (g k).isSome = true) (hg : ∀ k s, g k = some s → D.waits k = some s) : l.length ≤ 16384 := by
  have hsub : l.Perm (D.pending.filter fun k => (g k).isSome) := by
    refine (List.perm_ext_iff_of_nodup hn ((pending_nodup D).filter _)).2 fun k => ?_
    rw [List.mem_filter, hm, pending_mem D ok]
    constructor
    · intro h
      obtain ⟨s, hs⟩ := Option.isSome_iff_exists.1 h
      exact ⟨by rw [hg k s hs]; rfl, h⟩
    · exact fun h => h.2
  have h1 := hsub.length_eq
  have h2 := List.length_filter_le (fun k => (g k).isSome) D.pending
  have h3 := pending_len D
  have h4 := ok.size
  omega

theorem own_iter {w0 wr w4 : World} {R M : Nat} {f g : Int → Option Value} {cnt : Nat} {v : Value} {l : List Int} (ho : OwnInts wr w0.heap.size 3 v l) (hi : IterAt kInt wr R M f g cnt) (ht : Tch [R] wr w4) (o : Obj) : OwnInts (w4.alloc o) w0.heap.size 3 v l := by
  obtain ⟨es, clk, seen, h1, h2, h3, _⟩ := hi
  have hne := ho.ne h3 (by simp)
  exact (ho.kept ht (fun k hk hm => hne (by simp at hm; subst hm; rw [hk]; simp))).kept ((Tch.refl [] _).alloc _) (by simp)
theorem iter_own {w5 w6 : World} {R M B : Nat} {f g : Int → Option Value} {cnt : Nat} {v : Value} {l : List Int} (hi : IterAt kInt w5 R M f g cnt) (ho : OwnInts w5 B 3 v l) (ht : Tch v.ownBlock.toList w5 w6) : IterAt kInt w6 R M f g cnt := by
  have hi' := hi
  obtain ⟨es, clk, seen, h1, h2, h3, _⟩ := hi'
  exact hi.touch ht (ho.ne h3 (by simp)) (ho.ne h1 (by simp))
theorem PendRel.next {w0 wr w4 w6 : World} {M R : Nat} {D : DiskS} {cnt cnt4 : Nat} {v v6 : Value} {g : Int → Option Sec} {l : List Int} {kk : Int} {s : Sec}
    (hi : IterAt kInt wr R M (fun i => (D.waits i).map fun s => .agg (secA s)) (fun i => (g i).map fun s => .agg (secA s)) cnt) (ho : OwnInts wr w0.heap.size 3 v l) (hn : l.Nodup) (hm : ∀ k, k ∈ l ↔ (g k).isSome = true) (hg : ∀ k s, g k = some s → D.waits k = some s) (ht : Tch [] w0 wr)
    (hR : w0.heap.size ≤ R) (hs : D.waits kk = some s) (hgk : ((g kk).map fun s => Value.agg (secA s)) = none) (t4 : Tch [R] wr w4) (i4 : IterAt kInt w4 R M (fun i => (D.waits i).map fun s => .agg (secA s)) (upd (fun i => (g i).map fun s => .agg (secA s)) kk (.agg (secA s))) cnt4) (o : Obj)
    (o6 : OwnInts w6 w0.heap.size 3 v6 (l ++ [kk])) (t6 : Tch v.ownBlock.toList (w4.alloc o) w6) : PendRel w0 M R D cnt4 v6 w6 := by
  have hgn : g kk = none := by cases h : g kk with | none => rfl | some x => simp [h] at hgk
  have own5 := own_iter ho hi t4 o
  have i5 := i4.touch ((Tch.refl [] w4).alloc o) (by simp) (by simp)
  rw [upd_sec] at i5
  refine ⟨fun j => if j = kk then some s else g j, l ++ [kk], iter_own i5 own5 t6, o6, ?_, ?_, ?_, ?_⟩
  · refine List.nodup_append.2 ⟨hn, by simp, ?_⟩
    intro a ha b hb
    simp at hb
    subst hb
    rintro rfl
    have := (hm a).1 ha
    rw [hgn] at this
    cases this
  · intro k
    by_cases e : k = kk
    · simp [e]
    · simp [e, hm]
  · intro k u hk
    by_cases e : k = kk
    · subst e; simp at hk; subst hk; exact hs
    · simp only [e, if_false] at hk; exact hg k u hk
  · have h1 : Tch [R] w0 w4 := (ht.mono (by simp)).trans t4
    have h2 : Tch (R :: v.ownBlock.toList) w0 w6 := ((h1.mono (by simp)).alloc o).trans (t6.mono (fun k hk => List.mem_cons_of_mem _ hk))
    refine h2.drop (fun k hk => ?_)
    rcases List.mem_cons.1 hk with rfl | hk
    · exact .inr hR
    · exact .inr (own5.lt k hk).1

/-- v is a list of numbers in memory. -/
def IntsV (w : World) (v : Value) (l : List Int) : Prop := ∃ a cap, v = .slice a l.length cap ∧ IntsAt w a l

end Go.Proofs.YtkjgbhpnlgcinaaGreatDoor
/-
  Lists of numbers: the document's Pending, EqInts.
-/
namespace Go.Proofs.YtkjgbhpnlgcinaaGreatDoor
open Go.RowKit Go.Cib

/-- The pending numbers below j. -/
def pendTo (D : DiskS) (j : Nat) : List Int := ((List.range j).map (fun (i : Nat) => (i : Int))).filter fun i => (D.waits i).isSome
theorem pendTo_succ (D : DiskS) (j : Nat) : pendTo D (j + 1) = if (D.waits (j : Int)).isSome = true then pendTo D j ++ [(j : Int)] else pendTo D j := by
  unfold pendTo
  rw [List.range_succ, List.map_append, List.filter_append]
  by_cases h : (D.waits (j : Int)).isSome = true
  · rw [if_pos h]; simp [h]
  · rw [if_neg h]; simp [h]
theorem pendTo_len (D : DiskS) (j : Nat) : (pendTo D j).length ≤ j := by
  unfold pendTo
  exact Nat.le_trans (List.length_filter_le _ _) (by simp)

end Go.Proofs.YtkjgbhpnlgcinaaGreatDoor
/-
  Lists of sectors: a row's head, EqSectors, Clone, Sectors.
-/

