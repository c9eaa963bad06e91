/-
  The log in memory: package wal's Log, and its small methods.
-/
import Derived.Test.YthbaipljlbddcaaGreatDiskAll
import Derived.Test.YthbaipljlbddcaaGreatLogM
namespace Go.Proofs.YthbaipljlbddcaaGreat
open Go.RowKit Go.Cib

/-- Block g is the log S; its disk is block d (with L, M), its map is block V. -/
structure LogAt (w : World) (g d L M V : Nat) (S : LogS) : Prop where
  hg : w.heap[g]? = some (.cells #[.pointer (some ⟨d, 0, none⟩), .int .i64 S.log, .int .i64 S.pages, .int .u64 S.gen, .int .i64 S.used, .int .u64 S.records, .map (some V), .bool S.dead] 91)
  hD : DiskAt w d L M S.disk
  hV : MapAt kInt w V (fun i => (S.over i).map fun x => .agg (secA x))
  gd : g ≠ d
  gL : g ≠ L
  gM : g ≠ M
  gV : g ≠ V
  dV : d ≠ V
  LV : L ≠ V
  MV : M ≠ V
theorem LogAt.touch {w w' : World} {g d L M V : Nat} {S : LogS} {X : List Nat} (h : LogAt w g d L M V S) (ht : Tch X w w') (h0 : g ∉ X) (h1 : d ∉ X) (h2 : L ∉ X) (h3 : M ∉ X) (h4 : V ∉ X) : LogAt w' g d L M V S :=
  ⟨ht.heap h.hg h0, h.hD.touch ht h1 h2 h3, h.hV.touch ht h4, h.gd, h.gL, h.gM, h.gV, h.dV, h.LV, h.MV⟩

set_option maxRecDepth 20000 in
set_option maxHeartbeats 400000 in
theorem told_any {w : World} {g d L M V : Nat} {S : LogS} (h : LogAt w g d L M V S) (e : Int) :
    Calls Tryz.prog 51 #[.pointer (some ⟨g, 0, none⟩), .int .i64 e] w fun x w' => x = .returned (.int .i64 e) ∧ LogAt w' g d L M V { S with dead := S.dead || e == 6 } ∧ Tch [g] w w' := by
  have c7 := cell_of_row w g 7 _ _ _ h.hg
  have f7 := frozen_of_row w g 7 _ _ h.hg
  simp only [List.getElem?_toArray, List.getElem?_cons_zero, List.getElem?_cons_succ] at c7
  have H := Lib.hid h
  clear h
  by_cases h6 : e = 6
  · subst h6
    go_enter Tryz.func51, Tryz.ntmps51
    go_wp2
    go_ret
    have ht : Tch [g] w (w.setCell ⟨g, 7, none⟩ (.bool true)) := (Tch.refl _ _).setCell (by simp) _
    have hh := H.out
    refine ⟨rfl, ⟨?_, hh.hD.touch ht (by simpa using hh.gd.symm) (by simpa using hh.gL.symm) (by simpa using hh.gM.symm), hh.hV.touch ht (by simpa using hh.gV.symm), hh.gd, hh.gL, hh.gM, hh.gV, hh.dV, hh.LV, hh.MV⟩, ht⟩
    rw [heap_setCell_cells hh.hg _ _]
    simp
  · go_enter Tryz.func51, Tryz.ntmps51
    go_wp2
    go_ret
    have hs : ({ S with dead := S.dead || e == 6 } : LogS) = S := by
      have : (e == 6) = false := by simpa using h6
      rw [this, Bool.or_false]
    rw [hs]
    exact ⟨rfl, H.out, Tch.refl _ _⟩
set_option maxRecDepth 20000 in
set_option maxHeartbeats 400000 in
theorem pages_any {w : World} {g d L M V : Nat} {S : LogS} (h : LogAt w g d L M V S) :
    Calls Tryz.prog 15 #[.pointer (some ⟨g, 0, none⟩)] w fun x w' => x = .returned (.int .i64 (if S.dead = true then 0 else (S.pages : Int))) ∧ w = w' := by
  have c2 := cell_of_row w g 2 _ _ _ h.hg
  have c7 := cell_of_row w g 7 _ _ _ h.hg
  simp only [List.getElem?_toArray, List.getElem?_cons_zero, List.getElem?_cons_succ] at c2 c7
  clear h
  obtain ⟨D, log, pages, gen, used, records, over, dead⟩ := S
  simp only at c2 c7
  cases dead with
  | true =>
    go_enter Tryz.func15, Tryz.ntmps15
    go_wp2
    go_ret
    exact ⟨rfl, rfl⟩
  | false =>
    go_enter Tryz.func15, Tryz.ntmps15
    go_wp2
    go_ret
    exact ⟨rfl, rfl⟩

set_option maxRecDepth 20000 in
set_option maxHeartbeats 400000 in
theorem generation_any {w : World} {g d L M V : Nat} {S : LogS} (h : LogAt w g d L M V S) :
    Calls Tryz.prog 37 #[.pointer (some ⟨g, 0, none⟩)] w fun x w' => x = .returned (.int .u64 (if S.dead = true then 0 else (S.gen : Int))) ∧ w = w' := by
  have c3 := cell_of_row w g 3 _ _ _ h.hg
  have c7 := cell_of_row w g 7 _ _ _ h.hg
  simp only [List.getElem?_toArray, List.getElem?_cons_zero, List.getElem?_cons_succ] at c3 c7
  clear h
  obtain ⟨D, log, pages, gen, used, records, over, dead⟩ := S
  simp only at c3 c7
  cases dead with
  | true =>
    go_enter Tryz.func37, Tryz.ntmps37
    go_wp2
    go_ret
    exact ⟨rfl, rfl⟩
  | false =>
    go_enter Tryz.func37, Tryz.ntmps37
    go_wp2
    go_ret
    exact ⟨rfl, rfl⟩
end Go.Proofs.YthbaipljlbddcaaGreat
