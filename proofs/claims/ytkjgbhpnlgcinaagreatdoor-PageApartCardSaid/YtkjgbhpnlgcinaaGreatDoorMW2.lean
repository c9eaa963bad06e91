/-
  Lists of numbers: the keys of a map of arrays, sorted.
-/
import Derived.Test.YtkjgbhpnlgcinaaGreatDoorML1
import Derived.Test.YtkjgbhpnlgcinaaGreatDoorMW1
namespace Go.Proofs.YtkjgbhpnlgcinaaGreatDoor
open Go.RowKit Go.Cib
section
variable {n : Nat}
def keysOf (N : Nat) (f : Int → Option (Arr n)) : List Int := ((List.range N).map (fun (i : Nat) => (i : Int))).filter fun i => (f i).isSome
theorem map_arr_inj {f g : Int → Option (Arr n)} (h : (fun i => (g i).map fun s => Value.agg (secA s)) = fun i => (f i).map fun s => Value.agg (secA s)) : g = f := by
  funext i
  have := congrFun h i
  cases hg : g i <;> cases hf : f i <;> simp_all
  exact secA_inj this
theorem upd_arr (g : Int → Option (Arr n)) (k : Int) (s : Arr n) : upd (fun i => (g i).map fun s => Value.agg (secA s)) k (.agg (secA s)) = fun i => ((fun j => if j = k then some s else g j) i).map fun s => Value.agg (secA s) := by
  funext i
  simp only [upd]
  by_cases e : i = k <;> simp [e]
theorem keys_mem (f : Int → Option (Arr n)) (N : Nat) (hsup : ∀ i s, f i = some s → 0 ≤ i ∧ i < N) (k : Int) : k ∈ (keysOf N f) ↔ (f k).isSome = true := by
  unfold keysOf
  rw [List.mem_filter, List.mem_map]
  constructor
  · exact fun h => h.2
  · intro h
    refine ⟨?_, h⟩
    obtain ⟨s, hs⟩ := Option.isSome_iff_exists.1 h
    have := hsup k s hs
    exact ⟨k.toNat, List.mem_range.2 (by omega), by omega⟩
theorem keys_sorted (f : Int → Option (Arr n)) (N : Nat) : (keysOf N f).Pairwise (· < ·) := by
  unfold keysOf
  refine List.Pairwise.filter _ (List.pairwise_map.2 ?_)
  exact List.pairwise_lt_range.imp fun h => by omega
theorem keys_nodup (f : Int → Option (Arr n)) (N : Nat) : (keysOf N f).Nodup := (keys_sorted f N).imp fun h => by omega
theorem keys_len (f : Int → Option (Arr n)) (N : Nat) : (keysOf N f).length ≤ N := by
  unfold keysOf
  exact Nat.le_trans (List.length_filter_le _ _) (by simp)
/-- Whatever order they came in: sorted they are the document's list. -/
theorem sorted_keys (f : Int → Option (Arr n)) (N : Nat) (hsup : ∀ i s, f i = some s → 0 ≤ i ∧ i < N) (l : List Int) (hn : l.Nodup) (hm : ∀ k, k ∈ l ↔ (f k).isSome = true) : (l.mergeSort fun x y => decide (x ≤ y)) = (keysOf N f) ∧ l.length = (keysOf N f).length := by
  have hp : l.Perm (keysOf N f) := (List.perm_ext_iff_of_nodup hn (keys_nodup f N)).2 fun k => by rw [hm, keys_mem f N hsup]
  refine ⟨?_, hp.length_eq⟩
  have h1 : (l.mergeSort fun x y => decide (x ≤ y)).Pairwise (· ≤ ·) := by
    have := List.pairwise_mergeSort (le := fun (x y : Int) => decide (x ≤ y)) (by intro a b c; simp; omega) (by intro a b; simp; omega) l
    exact this.imp fun h => by simpa using h
  exact List.Perm.eq_of_pairwise (le := (· ≤ ·)) (fun a b _ _ h1 h2 => by omega) h1 ((keys_sorted f N).imp fun h => by omega) ((List.mergeSort_perm l _).trans hp)

/-- What the loop of Pending has gathered. -/
def KeyRel (w0 : World) (M R : Nat) (f : Int → Option (Arr n)) (cnt : Nat) (v : Value) (wr : World) : Prop :=
  ∃ (g : Int → Option (Arr n)) (l : List Int), IterAt kInt wr R M (fun i => (f i).map fun s => .agg (secA s)) (fun i => (g i).map fun s => .agg (secA s)) cnt ∧
    OwnInts wr w0.heap.size 3 v l ∧ l.Nodup ∧ (∀ k, k ∈ l ↔ (g k).isSome = true) ∧ (∀ k s, g k = some s → f k = some s) ∧ Tch [] w0 wr

theorem keys_len1 {f : Int → Option (Arr n)} {N : Nat} (hsup : ∀ i s, f i = some s → 0 ≤ i ∧ i < N) (hN : N ≤ 16384) {g : Int → Option (Arr n)} {l : List Int} (hn : l.Nodup) (hm : ∀ k, k ∈ l ↔ (g k).isSome = true) (hg : ∀ k s, g k = some s → f k = some s) : l.length ≤ 16384 := by
  have hsub : l.Perm ((keysOf N f).filter fun k => (g k).isSome) := by
    refine (List.perm_ext_iff_of_nodup hn ((keys_nodup f N).filter _)).2 fun k => ?_
    rw [List.mem_filter, hm, keys_mem f N hsup]
    constructor
    · intro h
      obtain ⟨s, hs⟩ := Option.isSome_iff_exists.1 h
      exact ⟨by rw [hg k s hs]; rfl, h⟩
    · exact fun h => h.2
  have h1 := hsub.length_eq
  have h2 := List.length_filter_le (fun k => (g k).isSome) (keysOf N f)
  have h3 := keys_len f N
  have h4 := hN
  omega

theorem own_iterA {w0 wr w4 : World} {R M : Nat} {f g : Int → Option Value} {cnt : Nat} {v : Value} {l : List Int} (ho : OwnInts wr w0.heap.size 3 v l) (hi : IterAt kInt wr R M f g cnt) (ht : Tch [R] wr w4) (o : Obj) : OwnInts (w4.alloc o) w0.heap.size 3 v l := by
  obtain ⟨es, clk, seen, h1, h2, h3, _⟩ := hi
  have hne := ho.ne h3 (by simp)
  exact (ho.kept ht (fun k hk hm => hne (by simp at hm; subst hm; rw [hk]; simp))).kept ((Tch.refl [] _).alloc _) (by simp)
theorem iter_ownA {w5 w6 : World} {R M B : Nat} {f g : Int → Option Value} {cnt : Nat} {v : Value} {l : List Int} (hi : IterAt kInt w5 R M f g cnt) (ho : OwnInts w5 B 3 v l) (ht : Tch v.ownBlock.toList w5 w6) : IterAt kInt w6 R M f g cnt := by
  have hi' := hi
  obtain ⟨es, clk, seen, h1, h2, h3, _⟩ := hi'
  exact hi.touch ht (ho.ne h3 (by simp)) (ho.ne h1 (by simp))
theorem KeyRel.next {w0 wr w4 w6 : World} {M R : Nat} {f : Int → Option (Arr n)} {cnt cnt4 : Nat} {v v6 : Value} {g : Int → Option (Arr n)} {l : List Int} {kk : Int} {s : Arr n}
    (hi : IterAt kInt wr R M (fun i => (f i).map fun s => .agg (secA s)) (fun i => (g i).map fun s => .agg (secA s)) cnt) (ho : OwnInts wr w0.heap.size 3 v l) (hn : l.Nodup) (hm : ∀ k, k ∈ l ↔ (g k).isSome = true) (hg : ∀ k s, g k = some s → f k = some s) (ht : Tch [] w0 wr)
    (hR : w0.heap.size ≤ R) (hs : f kk = some s) (hgk : ((g kk).map fun s => Value.agg (secA s)) = none) (t4 : Tch [R] wr w4) (i4 : IterAt kInt w4 R M (fun i => (f i).map fun s => .agg (secA s)) (upd (fun i => (g i).map fun s => .agg (secA s)) kk (.agg (secA s))) cnt4) (o : Obj)
    (o6 : OwnInts w6 w0.heap.size 3 v6 (l ++ [kk])) (t6 : Tch v.ownBlock.toList (w4.alloc o) w6) : KeyRel w0 M R f cnt4 v6 w6 := by
  have hgn : g kk = none := by cases h : g kk with | none => rfl | some x => simp [h] at hgk
  have own5 := own_iterA ho hi t4 o
  have i5 := i4.touch ((Tch.refl [] w4).alloc o) (by simp) (by simp)
  rw [upd_arr] at i5
  refine ⟨fun j => if j = kk then some s else g j, l ++ [kk], iter_ownA i5 own5 t6, o6, ?_, ?_, ?_, ?_⟩
  · refine List.nodup_append.2 ⟨hn, by simp, ?_⟩
    intro a ha b hb
    simp at hb
    subst hb
    rintro rfl
    have := (hm a).1 ha
    rw [hgn] at this
    cases this
  · intro k
    by_cases e : k = kk
    · simp [e]
    · simp [e, hm]
  · intro k u hk
    by_cases e : k = kk
    · subst e; simp at hk; subst hk; exact hs
    · simp only [e, if_false] at hk; exact hg k u hk
  · have h1 : Tch [R] w0 w4 := (ht.mono (by simp)).trans t4
    have h2 : Tch (R :: v.ownBlock.toList) w0 w6 := ((h1.mono (by simp)).alloc o).trans (t6.mono (fun k hk => List.mem_cons_of_mem _ hk))
    refine h2.drop (fun k hk => ?_)
    rcases List.mem_cons.1 hk with rfl | hk
    · exact .inr hR
    · exact .inr (own5.lt k hk).1

end
theorem keys_kept (S : LogS) : keysOf S.pages S.over = S.kept.map fun q => (q.1 : Int) := by
  unfold keysOf LogS.kept
  generalize List.range S.pages = r
  induction r with
  | nil => rfl
  | cons p r ih =>
    rw [List.map_cons, List.filter_cons, List.filterMap_cons]
    cases h : S.over (p : Int) with
    | none => simpa [h] using ih
    | some x => simpa [h] using ih
theorem kept_over (S : LogS) : ∀ q ∈ S.kept, S.over (q.1 : Int) = some q.2 ∧ q.1 < S.pages := by
  intro q hq
  unfold LogS.kept at hq
  obtain ⟨p, hp, h⟩ := List.mem_filterMap.1 hq
  obtain ⟨x, hx, rfl⟩ := Option.map_eq_some_iff.1 h
  exact ⟨hx, List.mem_range.1 hp⟩
theorem kept_len (S : LogS) : S.kept.length ≤ S.pages := by
  unfold LogS.kept
  exact Nat.le_trans (List.length_filterMap_le _ _) (by simp)
end Go.Proofs.YtkjgbhpnlgcinaaGreatDoor
/-
  All that is in the log goes home: package wal's Checkpoint, its parts.
-/
namespace Go.Cib
open Go Go.RowKit
section
variable {P : Program} {ops : Array Oper} {C : World → Prop} {Qs : Act → Prop} {rest : List Oper} {a : Act} {dst : Option Tmp} {ty : TypeId} {pos : String} {af : Array Edge} {x y : Operand} {gd : Option (Nat × Bool)}
theorem wq_lookup1 {κ : Type} [DecidableEq κ] {T K E : TypeId} {key : κ → Value} {M : Nat} {f : κ → Option Value} {m k : Operand} (hK : KeyT P K key) (hT : P.underlying T = some (.map K E)) {z : Value} (hz : ∀ w, (zeroValue E).run P w = .ok z w) (hC : ∀ w, C w → MapAt key w M f)
    (hw : Region.wanted ⟨dst, .lookup T m k false, ty, pos, af, gd⟩ (yielded ops a.tmps) = true) (hm : a.eval m = .map (some M)) {kk : κ} (hk : a.eval k = key kk)
    (h : wpQuiet P ops C Qs rest (a.put dst ((f kk).getD z))) : wpQuiet P ops C Qs (⟨dst, .lookup T m k false, ty, pos, af, gd⟩ :: rest) a :=
  wq_value hw (fun w hc => exec_lookup1 rfl hK hT (hz w) hm hk (hC w hc)) h
end
theorem OwnVals.ne {w : World} {B : Nat} {e : TypeId} {v : Value} {l : List Value} (h : OwnVals w B e v l) {R : Nat} {c : Array Value} {e' : TypeId} {fr : Nat × Nat} (hR : w.heap[R]? = some (.cells c e' fr)) (ho : e' ≠ e) : R ∉ v.ownBlock.toList := by
  intro hm
  rcases h.shape with ⟨rfl, _⟩ | ⟨g, cap, cur, rfl, _, hg, _⟩
  · simp [Value.ownBlock] at hm
  · simp [Value.ownBlock] at hm
    subst hm
    rw [hg] at hR
    cases hR
    exact ho rfl
namespace LogS
def homeStep (q : Nat × Page) (S : LogS) : Int × LogS := ((S.disk.act (S.homeA q.1 q.2)).1, { S with disk := (S.disk.act (S.homeA q.1 q.2)).2 })
def flushStep (S : LogS) : Int × LogS := (S.disk.flush.1, { S with disk := S.disk.flush.2 })
theorem runS_home (ks : List (Nat × Page)) (rest : List (LogS → Int × LogS)) (S : LogS) :
    runS S (ks.map homeStep ++ rest) = if (S.disk.acts (ks.map fun q => S.homeA q.1 q.2)).1 = 0 then runS { S with disk := (S.disk.acts (ks.map fun q => S.homeA q.1 q.2)).2 } rest else
      ((S.disk.acts (ks.map fun q => S.homeA q.1 q.2)).1, { S with disk := (S.disk.acts (ks.map fun q => S.homeA q.1 q.2)).2 }) := by
  induction ks generalizing S with
  | nil => simp [DiskS.acts]
  | cons k ks ih =>
    rw [List.map_cons, List.cons_append, runS, List.map_cons, DiskS.acts_cons]
    by_cases h : (S.disk.act (S.homeA k.1 k.2)).1 = 0
    · rw [if_pos (show (homeStep k S).1 = 0 from h), if_pos h, ih]
      rfl
    · rw [if_neg (show ¬ (homeStep k S).1 = 0 from h), if_neg h, if_neg h]
      rfl
theorem runS_check (S : LogS) (hd : S.dead = false) (hu : S.used ≠ 0) : S.checkpoint = if (runS S (S.kept.map homeStep ++ [flushStep, raise])).1 = 0 then (0, (runS S (S.kept.map homeStep ++ [flushStep, raise])).2.cleared) else
    ((runS S (S.kept.map homeStep ++ [flushStep, raise])).1, { (runS S (S.kept.map homeStep ++ [flushStep, raise])).2 with dead := (runS S (S.kept.map homeStep ++ [flushStep, raise])).2.dead || (runS S (S.kept.map homeStep ++ [flushStep, raise])).1 == 6 }) := by
  have hA : S.disk.acts S.homeAs = if (S.disk.acts (S.kept.map fun q => S.homeA q.1 q.2)).1 = 0 then (S.disk.acts (S.kept.map fun q => S.homeA q.1 q.2)).2.flush else S.disk.acts (S.kept.map fun q => S.homeA q.1 q.2) := by
    unfold homeAs
    rw [DiskS.acts_append, DiskS.acts_one]
    rfl
  unfold checkpoint
  rw [if_neg (by simp [hd]), if_neg hu, runS_home, hA]
  generalize S.disk.acts (S.kept.map fun q => S.homeA q.1 q.2) = A
  by_cases h1 : A.1 = 0
  · rw [if_pos h1, if_pos h1]
    have e : ∀ S' : LogS, runS S' [flushStep, raise] = if S'.disk.flush.1 = 0 then (if ({ S' with disk := S'.disk.flush.2 } : LogS).raise.1 = 0 then (0, ({ S' with disk := S'.disk.flush.2 } : LogS).raise.2) else ({ S' with disk := S'.disk.flush.2 } : LogS).raise) else (S'.disk.flush.1, { S' with disk := S'.disk.flush.2 }) := fun S' => rfl
    rw [e]
    simp only
    by_cases h2 : A.2.flush.1 = 0
    · rw [if_neg (by simp [h2]), if_pos h2]
      by_cases h3 : ({ S with disk := A.2.flush.2 } : LogS).raise.1 = 0
      · rw [if_neg (by simp [h3]), if_pos h3, if_pos rfl]
      · rw [if_pos h3, if_neg h3, if_neg h3]
        rfl
    · rw [if_pos h2, if_neg h2, if_neg h2]
      rfl
  · rw [if_neg h1, if_neg h1, if_pos h1, if_neg h1]
    rfl
end LogS
end Go.Cib
namespace Go.Proofs.YtkjgbhpnlgcinaaGreatDoor
open Go.RowKit Go.Cib
theorem uMapPage : Tryz.prog.underlying 102 = some (.map 3 54) := by kernel_rfl

set_option maxRecDepth 20000 in
set_option maxHeartbeats 400000 in
theorem chk1_any {w : World} {g d L M V Bl Bp p : Nat} {S : LogS} {x : Page} (h : LogAt w g d L M V S) (cl : w.cell? ⟨Bl, 0, none⟩ = some (.pointer (some ⟨g, 0, none⟩))) (cp : w.cell? ⟨Bp, 0, none⟩ = some (.int .i64 p)) (hx : S.over p = some x)
    (hl : S.log ≤ 4000) (hp : p < 16384) (hg : S.gen < 18446744073709551616) :
    Calls Tryz.prog 122 #[.pointer (some ⟨Bl, 0, none⟩), .pointer (some ⟨Bp, 0, none⟩)] w fun e w' =>
      e = .returned (.int .i64 (S.homeStep (p, x)).1) ∧ LogAt w' g d L M V (S.homeStep (p, x)).2 ∧ Tch [d, L, M] w w' := by
  have c6 := h.cell 6 rfl
  have H := Lib.hid h
  have HM : Hid (∀ w', (∃ n, w' = World.drewN w n) → MapAt kInt w' V (fun i => (S.over i).map fun x => Value.agg (secA x))) := fun w' ⟨n, hn⟩ => by subst hn; exact h.hV.touch (tch_drewN w n) (by simp)
  have hx' : ∀ z, ((S.over (p : Int)).map fun x => Value.agg (secA x)).getD z = .agg (secA x) := fun z => by rw [hx]; rfl
  have HX := Lib.hid hx'
  have CH : Hid (∀ n, Calls Tryz.prog 69 #[.pointer (some ⟨g, 0, none⟩), .int .i64 p, .agg (secA x)] (World.drewN w n) fun e w' =>
      e = .returned (.int .i64 (S.homeStep (p, x)).1) ∧ LogAt w' g d L M V (S.homeStep (p, x)).2 ∧ Tch [d, L, M] w w') := fun n => (home_any (h.touch (tch_drewN w n) (by simp) (by simp) (by simp) (by simp) (by simp)) p x hl hp hg).mono (by
        rintro e w' ⟨h1, h2, h3⟩; exact ⟨h1, h2, ((tch_drewN w n).mono (by simp)).trans h3⟩)
  clear h hx hx'
  go_enter Tryz.func122, Tryz.ntmps122
  go_upto_region 1 with fail
  (refine wp_region_walk (C := fun w' => ∃ n, w' = World.drewN w n) 8 (by kernel_rfl) (by kernel_rfl) ⟨1, rfl⟩ ?_; simp only [List.take_succ_cons, List.take_zero, List.drop_succ_cons, List.drop_zero]; (repeat (first | (refine wq_lookup1 keyI uMapPage (fun w => pageT.zero w) HM.out ?_ ?_ (kk := (p : Int)) ?_ ?_; exact rfl; exact rfl; exact rfl; simp only [HX.out]; go_frame) | go_big_quiet_step (fail))); refine wpQuiet_nil ?_; intro _ hw'; obtain ⟨nq, hw''⟩ := hw'; subst hw'')
  go_wp2_with (go_at_call 69; refine (CH.out _).mono ?_; rintro e w' ⟨rfl, hq1, hq2⟩; have Q1 := Lib.hid hq1; have Q2 := Lib.hid hq2; clear hq1 hq2)
  go_ret
  exact ⟨rfl, Q1.out, Q2.out⟩

set_option maxRecDepth 20000 in
set_option maxHeartbeats 400000 in
theorem chk2_any {w : World} {g d L M V Bl : Nat} {S : LogS} (h : LogAt w g d L M V S) (cl : w.cell? ⟨Bl, 0, none⟩ = some (.pointer (some ⟨g, 0, none⟩))) (hBl : Bl ≠ g) (hl : S.log ≤ 4000) (hp : S.pages ≤ 16384) :
    Calls Tryz.prog 123 #[.pointer (some ⟨Bl, 0, none⟩)] w fun e w' =>
      e = .returned (.int .i64 S.raise.1) ∧ LogAt w' g d L M V S.raise.2 ∧ Tch [g, d, L, M] w w' := by
  have c3 := h.cell 3 rfl
  have f3 := h.froz 3
  obtain ⟨gn, hgn⟩ : ∃ gn, (S.gen + 1) % 18446744073709551616 = gn := ⟨_, rfl⟩
  have Wg : IntKind.u64.wrap ((S.gen : Int) + 1) = gn := by simp [IntKind.wrap, IntKind.bits, IntKind.signed]; omega
  have hn : S.next = { S with gen := gn } := by unfold LogS.next; rw [hgn]
  have ht : Tch [g] w (w.setCell ⟨g, 3, none⟩ (.int .u64 gn)) := (Tch.refl _ _).setCell (by simp) _
  have h2 : LogAt (w.setCell ⟨g, 3, none⟩ (.int .u64 gn)) g d L M V S.next := by
    rw [hn]
    refine ⟨?_, h.hD.touch ht (by simpa using h.gd.symm) (by simpa using h.gL.symm) (by simpa using h.gM.symm), h.hV.touch ht (by simpa using h.gV.symm), h.gd, h.gL, h.gM, h.gV, h.dV, h.LV, h.MV⟩
    rw [heap_setCell_cells h.hg _ _]; rfl
  have cl2 : (w.setCell ⟨g, 3, none⟩ (.int .u64 gn)).cell? ⟨Bl, 0, none⟩ = some (.pointer (some ⟨g, 0, none⟩)) := cell_touch ht cl (by simpa using hBl)
  have CH : Hid (Calls Tryz.prog 70 #[.pointer (some ⟨g, 0, none⟩)] (w.setCell ⟨g, 3, none⟩ (.int .u64 gn)) fun e w' =>
      e = .returned (.int .i64 S.raise.1) ∧ LogAt w' g d L M V S.raise.2 ∧ Tch [g, d, L, M] w w') := (head_any h2 hl hp (by rw [hn]; show gn < _; omega)).mono (by
        rintro e w' ⟨q1, q2, q3⟩; exact ⟨q1, q2, (ht.mono (by simp)).trans (q3.mono (by simp))⟩)
  have hBg : ¬ Bl = g := hBl
  clear h h2 hn ht hgn
  go_enter Tryz.func123, Tryz.ntmps123
  go_wp2_with (go_at_call 70; refine CH.out.mono ?_; rintro e w' ⟨rfl, hq1, hq2⟩; have Q1 := Lib.hid hq1; have Q2 := Lib.hid hq2; clear hq1 hq2)
  go_ret
  exact ⟨rfl, Q1.out, Q2.out⟩
end Go.Proofs.YtkjgbhpnlgcinaaGreatDoor
/-
  All that is in the log goes home: package wal's Checkpoint.
-/
namespace Go.Proofs.YtkjgbhpnlgcinaaGreatDoor
open Go.RowKit Go.Cib
theorem fnsT : OneT Tryz.prog 164 47 .nilFunc 8 := .of (by kernel_rfl) (by kernel_rfl) rfl
abbrev fnHome (Bl b : Nat) : Value := .func (.func 122) #[] #[.pointer (some ⟨Bl, 0, none⟩), .pointer (some ⟨b, 0, none⟩)]
abbrev fnFlush (d : Nat) : Value := .func (.func 67) #[.pointer (some ⟨d, 0, none⟩)] #[]
abbrev fnRaise (Bl : Nat) : Value := .func (.func 123) #[] #[.pointer (some ⟨Bl, 0, none⟩)]
/-- What the steps of a checkpoint keep. -/
structure ChkR (W w' : World) (g d L M V : Nat) (S S' : LogS) : Prop where
  at_ : LogAt w' g d L M V S'
  same : ∃ D gn, S' = { S with disk := D, gen := gn } ∧ gn < 18446744073709551616
  tch : Tch [g, d, L, M] W w'
set_option maxRecDepth 20000 in
theorem home_step {g d L M V Bl b p : Nat} {S : LogS} {W : World} {x : Page} (cl : W.cell? ⟨Bl, 0, none⟩ = some (.pointer (some ⟨g, 0, none⟩))) (hBl : Bl ∉ [g, d, L, M]) (cb : W.cell? ⟨b, 0, none⟩ = some (.int .i64 p)) (hb : b ∉ [g, d, L, M]) (hx : S.over p = some x) (hl : S.log ≤ 4000) (hp : p < 16384) :
    StepV Tryz.prog (fun S' w' => ChkR W w' g d L M V S S') (fnHome Bl b) (LogS.homeStep (p, x)) :=
  ⟨_, _, _, rfl, fun _ _ => rfl, fun S' w h => by
    obtain ⟨D, gn, rfl, hgn⟩ := h.same
    refine (chk1_any h.at_ (cell_touch h.tch cl hBl) (cell_touch h.tch cb hb) hx hl hp hgn).mono ?_
    rintro e w' ⟨q1, q2, q3⟩
    exact ⟨q1, q2, ⟨_, _, rfl, hgn⟩, h.tch.trans (q3.mono (by simp))⟩⟩
set_option maxRecDepth 20000 in
theorem flush_step {g d L M V : Nat} {S : LogS} {W : World} : StepV Tryz.prog (fun S' w' => ChkR W w' g d L M V S S') (fnFlush d) LogS.flushStep :=
  ⟨_, _, _, rfl, fun _ _ => rfl, fun S' w h => by
    obtain ⟨D, gn, rfl, hgn⟩ := h.same
    refine (flush_any h.at_.hD).mono ?_
    rintro e w' ⟨q1, q2, q3⟩
    exact ⟨q1, h.at_.disk q2 q3, ⟨_, _, rfl, hgn⟩, h.tch.trans (q3.mono (by simp))⟩⟩
set_option maxRecDepth 20000 in
theorem raise_step {g d L M V Bl : Nat} {S : LogS} {W : World} (cl : W.cell? ⟨Bl, 0, none⟩ = some (.pointer (some ⟨g, 0, none⟩))) (hBl : Bl ∉ [g, d, L, M]) (hl : S.log ≤ 4000) (hp : S.pages ≤ 16384) :
    StepV Tryz.prog (fun S' w' => ChkR W w' g d L M V S S') (fnRaise Bl) LogS.raise :=
  ⟨_, _, _, rfl, fun _ _ => rfl, fun S' w h => by
    obtain ⟨D, gn, rfl, hgn⟩ := h.same
    refine (chk2_any h.at_ (cell_touch h.tch cl hBl) (by intro e; apply hBl; simp [e]) hl hp).mono ?_
    rintro e w' ⟨q1, q2, q3⟩
    exact ⟨q1, q2, ⟨_, _, rfl, Nat.mod_lt _ (by decide)⟩, h.tch.trans (q3.mono (by simp))⟩⟩
/-- What the second loop has gathered. -/
structure GathR (W wr : World) (Bl : Nat) (l : List Int) (j : Nat) (bs : List Nat) (v : Value) : Prop where
  len : bs.length = j
  own : OwnVals wr W.heap.size 47 v (bs.map (fnHome Bl))
  box : ∀ (i b : Nat) (p : Int), bs[i]? = some b → l[i]? = some p → wr.heap[b]? = some (.cells #[.int .i64 p] 3) ∧ W.heap.size ≤ b
  tch : Tch [] W wr
theorem GathR.next {W wr w5 w6 w7 : World} {Bl j b : Nat} {l : List Int} {bs : List Nat} {v v' : Value} {p : Int} (h : GathR W wr Bl l j bs v) (hp : l[j]? = some p) (t5 : Tch [] wr w5) (hb : w5.heap[b]? = some (.cells #[.int .i64 p] 3)) (hbW : W.heap.size ≤ b) (t6 : Tch [] w5 w6)
    (o7 : OwnVals w7 W.heap.size 47 v' (bs.map (fnHome Bl) ++ [fnHome Bl b])) (t7 : Tch v.ownBlock.toList w6 w7) : GathR W w7 Bl l (j + 1) (bs ++ [b]) v' := by
  have own6 := (h.own.kept t5 (by simp)).kept t6 (by simp)
  refine ⟨by rw [List.length_append, h.len]; rfl, by simpa using o7, ?_, tch_own (h.tch.trans (t5.trans t6)) t7 (fun k hk => (own6.lt k hk).1)⟩
  intro i c q hi hq
  rcases Nat.lt_or_ge i bs.length with hlt | hge
  · rw [List.getElem?_append_left hlt] at hi
    obtain ⟨g1, g2⟩ := h.box i c q hi hq
    have g3 := t6.heap (t5.heap g1 (by simp)) (by simp)
    exact ⟨t7.heap g3 (own6.ne g3 (by decide)), g2⟩
  · rw [List.getElem?_append_right hge, h.len] at hi
    have hi0 : i - j = 0 := by
      rcases Nat.eq_zero_or_pos (i - j) with h0 | h0
      · exact h0
      · rw [List.getElem?_eq_none (by simp; omega)] at hi; cases hi
    have hij : i = j := by have := h.len; omega
    subst hij
    rw [hi0] at hi
    simp at hi
    subst hi
    rw [hp] at hq
    cases hq
    have g3 := t6.heap hb (by simp)
    exact ⟨t7.heap g3 (own6.ne g3 (by decide)), hbW⟩

set_option maxRecDepth 20000 in
set_option maxHeartbeats 2000000 in
theorem checkpoint_any {w : World} {g d L M V : Nat} {S : LogS} (h : LogAt w g d L M V S) (ok : S.Ok) :
    Calls Tryz.prog 78 #[.pointer (some ⟨g, 0, none⟩)] w fun e w' =>
      e = .returned (.int .i64 S.checkpoint.1) ∧ LogAt w' g d L M V S.checkpoint.2 ∧ Tch [g, d, L, M, V] w w' := by
  obtain ⟨W1, hW1⟩ : ∃ W1, w.alloc (.cells #[.pointer (some ⟨g, 0, none⟩)] 73) = W1 := ⟨_, rfl⟩
  have t1 : Tch [] w W1 := by rw [← hW1]; exact (Tch.refl _ _).alloc _
  have hbl : W1.heap[w.heap.size]? = some (.cells #[.pointer (some ⟨g, 0, none⟩)] 73) := by rw [← hW1]; exact heap_alloc_new _ _
  have h1 := h.touch t1 (by simp) (by simp) (by simp) (by simp) (by simp)
  have cl : W1.cell? ⟨w.heap.size, 0, none⟩ = some (.pointer (some ⟨g, 0, none⟩)) := by rw [cell_of_row W1 _ 0 _ _ _ hbl]; rfl
  have c7 := h1.cell 7 rfl
  have c4 := h1.cell 4 rfl
  have c6 := h1.cell 6 rfl
  have HW1 := Lib.hid hW1
  have H1 := Lib.hid h1
  have T1 := Lib.hid t1
  have HLOG := Lib.hid h
  have L1 := Lib.hid (lt_of_heap hbl)
  have OKK := Lib.hid ok
  clear hW1 t1 hbl h ok
  cases hd : S.dead with
  | true =>
    rw [hd] at c7
    have e : S.checkpoint = (6, S) := by unfold LogS.checkpoint; rw [if_pos hd]
    have E := Lib.hid e
    clear e hd h1
    go_enter Tryz.func78, Tryz.ntmps78
    go_upto_region 1 with fail
    rw [HW1.out]
    go_wp2_with fail
    go_ret
    rw [E.out]
    exact ⟨rfl, H1.out, T1.out.mono (by simp)⟩
  | false =>
    rw [hd] at c7
    by_cases hu : S.used = 0
    · have hu' : ((S.used : Int) == 0) = true := by simp [hu]
      have e : S.checkpoint = (0, S) := by unfold LogS.checkpoint; rw [if_neg (by simp [hd]), if_pos hu]
      have E := Lib.hid e
      clear e hd h1 hu
      go_enter Tryz.func78, Tryz.ntmps78
      go_upto_region 1 with fail
      rw [HW1.out]
      go_wp2_with fail
      go_ret
      rw [E.out]
      exact ⟨rfl, H1.out, T1.out.mono (by simp)⟩
    · have hu' : ((S.used : Int) == 0) = false := by simp [hu]
      have EC := Lib.hid (LogS.runS_check S hd hu)
      clear hd h1 hu
      go_enter Tryz.func78, Tryz.ntmps78
      go_upto_region 1 with fail
      rw [HW1.out]
      go_wp2_with ((with_reducible apply wc_range uMapPage H1.out.hV); exact rfl; intro w3 cnt t3 sz3 hit; go_frame; have HT3 := Lib.hid t3; have HIT := Lib.hid hit; have HS3 := Lib.hid sz3; clear t3 hit sz3)
      have hr0 : KeyRel W1 V W1.heap.size S.over cnt (.slice none 0 0) w3 := ⟨fun _ => none, [], HIT.out, ownInts_nil _ _ _, by simp, by simp, by simp, HT3.out⟩
      have HREL := Lib.hid hr0
      clear hr0 c6 c4 c7
      go_loopg [3] cnt (fun k v wr => KeyRel W1 V W1.heap.size S.over k v wr)
      case atStart => exact HREL.out
      case round =>
        obtain ⟨f, l, hi, ho, hn, hm, hg, ht⟩ := hrel
        have hl := keys_len1 OKK.out.over OKK.out.pages2 hn hm hg
        have I1 := Lib.hid hi
        have O1 := Lib.hid ho
        have N1 := Lib.hid hn
        have M1 := Lib.hid hm
        have G1 := Lib.hid hg
        have TR := Lib.hid ht
        clear hi ho hn hm hg ht
        go_upto_region 13 with (first | ((with_reducible apply wc_next keyI.inj I1.out); exact rfl; (intro hgf; have HGF := Lib.hid hgf; clear hgf; go_frame); rotate_left; (intro kk v w4 cnt4 hf hg ht hen hlt hit; obtain ⟨s, hs, rfl⟩ := Option.map_eq_some_iff.1 hf; have HS := Lib.hid hs; have HG := Lib.hid hg; have HT := Lib.hid ht; have HEN := Lib.hid hen; have HLT := Lib.hid hlt; have HI := Lib.hid hit; clear hf hs hg ht hen hlt hit; go_frame; (try simp only [kInt])); rotate_left) | ((with_reducible apply wc_entry HEN.out); exact rfl; go_frame; (try simp only [kInt])) | (go_at_call 107; refine (sort_any _ _ _ _ O1.out (by omega)).mono ?_; rintro e w6 ⟨rfl, hq1, hq2⟩; have HQ1 := Lib.hid hq1; have HQ2 := Lib.hid hq2; clear hq1 hq2) | ((with_reducible apply wc_append_int intsT (own_iterA O1.out I1.out HT.out _) (by have := TR.out.size; have := HT.out.size; simp; omega) (by omega)); exact rfl; exact rfl; exact rfl; exact rfl; exact (World.cell?_alloc_new _ _ _ _).trans rfl; intro v6 w6 ho6 ht6; go_frame; have HO6 := Lib.hid ho6; have HT6 := Lib.hid ht6; clear ho6 ht6))
        · have hgf := map_arr_inj HGF.out
          have hm2 : ∀ k, k ∈ l ↔ (S.over k).isSome = true := by rw [← hgf]; exact M1.out
          obtain ⟨e1, e2⟩ := sorted_keys S.over S.pages OKK.out.over l N1.out hm2
          obtain ⟨ia, icap, hv, hI⟩ := HQ2.out
          rw [e1, keys_kept] at hI
          rw [e2, keys_kept, List.length_map] at hv
          subst hv
          have hT6 : Tch [] W1 w6 := tch_own TR.out HQ1.out (fun k hk => (O1.out.lt k hk).1)
          have h6 := H1.out.touch hT6 (by simp) (by simp) (by simp) (by simp) (by simp)
          have hL6 : w.heap.size < w6.heap.size := Nat.lt_of_lt_of_le L1.out hT6.size
          obtain ⟨m, hm⟩ : ∃ m, S.kept.length = m := ⟨_, rfl⟩
          have hmn : m ≤ 16384 := by have := kept_len S; have := OKK.out.pages2; omega
          rw [hm]
          have cl6 := cell_old hT6 cl
          have HM := Lib.hid hm
          have H6 := Lib.hid h6
          have T6 := Lib.hid hT6
          have II := Lib.hid hI
          have CL6 := Lib.hid cl6
          clear HQ1 HQ2 HGF I1 O1 N1 M1 G1 TR HREL HIT HT3 HS3 e1 e2 hm2 hgf hI hT6 h6 hm cl cl6 H1 HW1
          go_wp2_with fail
          go_loopg [5, 40] m (fun q v i wr => ∃ j bs, OnAt m i q j ∧ GathR w6 wr w.heap.size (S.kept.map fun q => (q.1 : Int)) j bs v)
          case atStart => exact ⟨0, [], ⟨Nat.zero_le _, rfl, rfl⟩, ⟨rfl, ownVals_nil _ _ _, by simp, Tch.refl _ _⟩⟩
          case round =>
            obtain ⟨j, bs, ⟨hj, rfl, rfl⟩, hgr⟩ := hrel
            have GR := Lib.hid hgr
            clear hgr
            by_cases hjm : j < m
            · obtain ⟨p, hp⟩ : ∃ p, (S.kept.map fun q => (q.1 : Int))[j]? = some p := ⟨_, List.getElem?_eq_getElem (by rw [List.length_map, HM.out]; exact hjm)⟩
              obtain ⟨ib, io, rfl, hc⟩ := II.out j p hp
              have HP := Lib.hid hp
              have hc' := cell_old GR.out.tch hc
              clear hp hc
              go_upto_region 17 with fail
              obtain ⟨w5, hw5⟩ : ∃ w5, wr.alloc (.cells #[.int .i64 p] 3) = w5 := ⟨_, rfl⟩
              have t5 : Tch [] wr w5 := by rw [← hw5]; exact (Tch.refl _ _).alloc _
              have b5 : w5.heap[wr.heap.size]? = some (.cells #[.int .i64 p] 3) := by rw [← hw5]; exact heap_alloc_new _ _
              have hWr := GR.out.tch.size
              have T5 := Lib.hid t5
              have B5 := Lib.hid b5
              have O5 : Hid (OwnVals (w5.alloc (.cells #[fnHome w.heap.size wr.heap.size] 47)) w6.heap.size 47 u5 (bs.map (fnHome w.heap.size))) := (GR.out.own.kept t5 (by simp)).kept ((Tch.refl [] _).alloc _) (by simp)
              have V5 : Hid (ValsAt (w5.alloc (.cells #[fnHome w.heap.size wr.heap.size] 47)) (some ⟨w5.heap.size, 0, none⟩) [fnHome w.heap.size wr.heap.size]) := valsAt_row (heap_alloc_new _ _)
              have hmf : ∀ (fn : Fn) (first cap : Array Value) (w : World), (Instr.makeFunc fn first cap).run Tryz.prog w = .ok (.func fn first cap) w := fun _ _ _ _ => rfl
              have hbl : bs.length = j := GR.out.len
              have hw6 := t5.size
              rw [hw5]
              clear hw5 t5 b5 hc'
              go_wp2_with ((with_reducible apply wc_append_vals fnsT (by decide) (m := [fnHome w.heap.size wr.heap.size]) O5.out (by simp; omega) (by simp; omega)); exact rfl; exact rfl; exact rfl; exact rfl; exact V5.out; (intro u hu; simp at hu; subst hu; rfl); intro v7 w7 ho7 ht7; go_frame; have HO7 := Lib.hid ho7; have HT7 := Lib.hid ht7; clear ho7 ht7)
              go_roundg (m - (j + 1))
              case measure => omega
              case rel => exact ⟨j + 1, _, ⟨by omega, by go_num, rfl⟩, GR.out.next HP.out T5.out B5.out hWr ((Tch.refl [] _).alloc _) HO7.out HT7.out⟩
            · have hjm' : j = m := by omega
              subst hjm'
              have hbl : bs.length = j := GR.out.len
              have hr := H6.out.touch GR.out.tch (by simp) (by simp) (by simp) (by simp) (by simp)
              have c0 := hr.cell 0 rfl
              have clr := cell_old GR.out.tch CL6.out
              have HR := Lib.hid hr
              have O5 : Hid (OwnVals (wr.alloc (.cells #[fnFlush d, fnRaise w.heap.size] 47)) w6.heap.size 47 u5 (bs.map (fnHome w.heap.size))) := GR.out.own.kept ((Tch.refl [] _).alloc _) (by simp)
              have V5 : Hid (ValsAt (wr.alloc (.cells #[fnFlush d, fnRaise w.heap.size] 47)) (some ⟨wr.heap.size, 0, none⟩) [fnFlush d, fnRaise w.heap.size]) := valsAt_row (heap_alloc_new _ _)
              have hmf : ∀ (fn : Fn) (first cap : Array Value) (w : World), (Instr.makeFunc fn first cap).run Tryz.prog w = .ok (.func fn first cap) w := fun _ _ _ _ => rfl
              have hWr := GR.out.tch.size
              have CALL : Hid (∀ v7 w7, OwnVals w7 w6.heap.size 47 v7 (bs.map (fnHome w.heap.size) ++ [fnFlush d, fnRaise w.heap.size]) → Tch u5.ownBlock.toList (wr.alloc (.cells #[fnFlush d, fnRaise w.heap.size] 47)) w7 →
                  Calls Tryz.prog 64 #[v7] w7 fun e w' => e = .returned (.int .i64 (runS S (S.kept.map LogS.homeStep ++ [LogS.flushStep, LogS.raise])).1) ∧ LogAt w' g d L M V (runS S (S.kept.map LogS.homeStep ++ [LogS.flushStep, LogS.raise])).2 ∧ Tch [g, d, L, M] w6 w' ∧ w'.cell? ⟨w.heap.size, 0, none⟩ = some (.pointer (some ⟨g, 0, none⟩)) ∧ True) := by
                intro v7 w7 ho7 ht7
                obtain ⟨av, vcap, hv7, hvals, hblk⟩ := ho7.vals
                subst hv7
                have T67 : Tch [] w6 w7 := tch_own (GR.out.tch.alloc _) ht7 (fun k hk => (O5.out.lt k hk).1)
                have h7 := H6.out.touch T67 (by simp) (by simp) (by simp) (by simp) (by simp)
                have cl7 := cell_old T67 CL6.out
                have hg6 : g < w6.heap.size := lt_of_heap H6.out.hg
                have hd6 : d < w6.heap.size := lt_of_heap H6.out.hD.hd
                have hl6 : L < w6.heap.size := lt_of_heap H6.out.hD.hL
                have hm6 : M < w6.heap.size := H6.out.hD.hM.lt
                have hold : ∀ b, w6.heap.size ≤ b → b ∉ [g, d, L, M] := by intro b hb; simp; omega
                have hBl : w.heap.size ∉ [g, d, L, M] := by
                  have a1 := lt_of_heap HLOG.out.hg
                  have a2 := lt_of_heap HLOG.out.hD.hd
                  have a3 := lt_of_heap HLOG.out.hD.hL
                  have a4 := HLOG.out.hD.hM.lt
                  simp; omega
                have hfst : ((bs.zip S.kept).map (fun q => (fnHome w.heap.size q.1, LogS.homeStep q.2)) ++ [(fnFlush d, LogS.flushStep), (fnRaise w.heap.size, LogS.raise)]).map (·.1) = bs.map (fnHome w.heap.size) ++ [fnFlush d, fnRaise w.heap.size] := by
                  rw [List.map_append, List.map_map]
                  congr 1
                  have : (bs.zip S.kept).map Prod.fst = bs := List.map_fst_zip (by rw [hbl, HM.out]; exact Nat.le_refl _)
                  conv => rhs; rw [← this]
                  rw [List.map_map]
                  rfl
                have hsnd : ((bs.zip S.kept).map (fun q => (fnHome w.heap.size q.1, LogS.homeStep q.2)) ++ [(fnFlush d, LogS.flushStep), (fnRaise w.heap.size, LogS.raise)]).map (·.2) = S.kept.map LogS.homeStep ++ [LogS.flushStep, LogS.raise] := by
                  rw [List.map_append, List.map_map]
                  congr 1
                  have : (bs.zip S.kept).map Prod.snd = S.kept := List.map_snd_zip (by rw [hbl, HM.out]; exact Nat.le_refl _)
                  conv => rhs; rw [← this]
                  rw [List.map_map]
                  rfl
                have hlen : ((bs.zip S.kept).map (fun q => (fnHome w.heap.size q.1, LogS.homeStep q.2)) ++ [(fnFlush d, LogS.flushStep), (fnRaise w.heap.size, LogS.raise)]).length = (bs.map (fnHome w.heap.size) ++ [fnFlush d, fnRaise w.heap.size]).length := by
                  rw [← hfst, List.length_map]
                rw [← hlen]
                rw [← hfst] at hvals
                rw [← hsnd]
                refine (steps_any (R := fun S' w' => ChkR w7 w' g d L M V S S') ?_ (a := av) (cap := vcap) ?_ (s := S) ⟨h7, ⟨S.disk, S.gen, rfl, OKK.out.gen⟩, Tch.refl _ _⟩ ?_).mono ?_
                · intro q hq
                  rcases List.mem_append.1 hq with hq | hq
                  · obtain ⟨⟨b, p, x⟩, hq1, rfl⟩ := List.mem_map.1 hq
                    obtain ⟨i, hi⟩ := List.getElem?_of_mem hq1
                    obtain ⟨hi1, hi2⟩ := List.getElem?_zip_eq_some.1 hi
                    obtain ⟨g1, g2⟩ := GR.out.box i b p hi1 (by rw [List.getElem?_map, hi2]; rfl)
                    have g3 := ht7.heap (((Tch.refl [] wr).alloc _).heap g1 (by simp)) (O5.out.ne (((Tch.refl [] wr).alloc _).heap g1 (by simp)) (by decide))
                    obtain ⟨k1, k2⟩ := kept_over S (p, x) (List.mem_of_getElem? hi2)
                    exact home_step cl7 hBl (by rw [cell_of_row w7 b 0 _ _ _ g3]; rfl) (hold b g2) k1 OKK.out.log4 (by have := OKK.out.pages2; simp at k2; omega)
                  · simp only [List.mem_cons, List.not_mem_nil, or_false] at hq
                    rcases hq with rfl | rfl
                    · exact flush_step
                    · exact raise_step cl7 hBl OKK.out.log4 OKK.out.pages2
                · intro S' w' hR i v hv
                  obtain ⟨b, o, hb, hc⟩ := hvals i v hv
                  exact ⟨b, o, hb, cell_touch hR.tch hc (hold b (hblk b o hb))⟩
                · rw [hlen]; simp; omega
                · rintro e w' ⟨q1, q2⟩
                  exact ⟨q1, q2.at_, (T67.mono (by simp)).trans q2.tch, cell_touch q2.tch cl7 hBl, trivial⟩
              by_cases hz : (runS S (S.kept.map LogS.homeStep ++ [LogS.flushStep, LogS.raise])).1 = 0
              · rw [if_pos hz] at EC
                obtain ⟨S2, hS2⟩ : ∃ S2, (runS S (S.kept.map LogS.homeStep ++ [LogS.flushStep, LogS.raise])).2 = S2 := ⟨_, rfl⟩
                rw [hz, hS2] at CALL
                rw [hS2] at EC
                clear hz hS2 hr
                go_upto_region 23 with (first | (at_builtin; (with_reducible apply wc_append_vals fnsT (by decide) (m := [fnFlush d, fnRaise w.heap.size]) O5.out (by simp; omega) (by simp; omega)); exact rfl; exact rfl; exact rfl; exact rfl; exact V5.out; (intro u hu; simp at hu; rcases hu with rfl | rfl <;> rfl); intro v7 w7 ho7 ht7; go_frame; have HO7 := Lib.hid ho7; have HT7 := Lib.hid ht7; clear ho7 ht7) | (go_at_call 64; refine (CALL.out _ _ HO7.out HT7.out).mono ?_; rintro e w8 ⟨rfl, q1, q2, q3, _⟩; have Q1 := Lib.hid q1; have Q2 := Lib.hid q2; have Q3 := Lib.hid q3; clear q1 q2 q3))
                have hBl : w.heap.size ≠ g := by have a1 := lt_of_heap HLOG.out.hg; omega
                obtain ⟨w9, hw9⟩ : ∃ w9, w8.setCell ⟨g, 4, none⟩ (.int .i64 0) = w9 := ⟨_, rfl⟩
                have tA : Tch [g] w8 w9 := by rw [← hw9]; exact (Tch.refl _ _).setCell (by simp) _
                have cl8 := Q3.out
                have cl9 : w9.cell? ⟨w.heap.size, 0, none⟩ = some (.pointer (some ⟨g, 0, none⟩)) := cell_touch tA cl8 (by simpa using hBl)
                have f4 := Q1.out.froz 4
                have hg8 := lt_of_heap Q1.out.hg
                have c48 := Q1.out.cell 4 rfl
                refine wp_region_one 7 4 [.pointer (some ⟨g, 0, none⟩), .pointer (some ⟨g, 0, none⟩), .pointer (some ⟨g, 0, none⟩), .pointer (some ⟨g, 4, none⟩), undef, .pointer (some ⟨g, 0, none⟩), .pointer (some ⟨g, 5, none⟩)] _ (fun b w' => ∃ n, w' = World.drewN (cond b w9 w8) n) (by kernel_rfl) (by kernel_rfl) rfl
                  (by simp only [putAll, List.take_succ_cons, List.take_zero]; go_frame; exact rfl) (by decide) ⟨1, rfl⟩ ?_ ?_ ?_
                · intro b
                  have clb : (cond b w9 w8).cell? ⟨w.heap.size, 0, none⟩ = some (.pointer (some ⟨g, 0, none⟩)) := by cases b; exact cl8; exact cl9
                  simp only [List.take_succ_cons, List.take_zero]
                  refine stepsBut_cons (stepOk_value rfl fun W hW => ?_) (stepsBut_cons (stepOk_value rfl fun W hW => ?_) (stepsBut_cons (stepOk_value rfl fun W hW => ?_) (stepsBut_cons (stepOk_value rfl fun W hW => ?_) (stepsBut_here (stepsOk_cons (stepOk_value rfl fun W hW => ?_) (stepsOk_cons (stepOk_value rfl fun W hW => ?_) stepsOk_nil))))))
                  all_goals (obtain ⟨n, rfl⟩ := hW; go_simp)
                · intro o W ho hW
                  simp only [List.getElem?_cons_zero, List.getElem?_cons_succ, Option.some.injEq] at ho
                  subst ho
                  obtain ⟨n, rfl⟩ := hW
                  refine ⟨rfl, ?_⟩
                  simp only [cond_false]
                  go_simp
                  exact ⟨rfl, n, by rw [← hw9]; rfl⟩
                intro wZ hZ
                obtain ⟨n, rfl⟩ := hZ
                simp only [cond_true, List.drop_succ_cons, List.drop_zero]
                have h9 : LogAt w9 g d L M V { S2 with used := 0 } := by
                  have hh := Q1.out
                  refine ⟨?_, hh.hD.touch tA (by simpa using hh.gd.symm) (by simpa using hh.gL.symm) (by simpa using hh.gM.symm), hh.hV.touch tA (by simpa using hh.gV.symm), hh.gd, hh.gL, hh.gM, hh.gV, hh.dV, hh.LV, hh.MV⟩
                  rw [← hw9, heap_setCell_cells hh.hg _ _]; rfl
                have hZ := h9.touch (tch_drewN w9 n) (by simp) (by simp) (by simp) (by simp) (by simp)
                have tZ : Tch [g] w8 (w9.drewN n) := tA.trans ((tch_drewN w9 n).mono (by simp))
                have cZ := cell_old (tch_drewN w9 n) cl9
                generalize w9.drewN n = wZ at *
                have c5 := hZ.cell 5 rfl
                have f5 := hZ.froz 5
                obtain ⟨wB, hwB⟩ : ∃ wB, wZ.setCell ⟨g, 5, none⟩ (.int .u64 0) = wB := ⟨_, rfl⟩
                have tB : Tch [g] wZ wB := by rw [← hwB]; exact (Tch.refl _ _).setCell (by simp) _
                have hB : LogAt wB g d L M V { S2 with used := 0, records := 0 } := by
                  refine ⟨?_, hZ.hD.touch tB (by simpa using hZ.gd.symm) (by simpa using hZ.gL.symm) (by simpa using hZ.gM.symm), hZ.hV.touch tB (by simpa using hZ.gV.symm), hZ.gd, hZ.gL, hZ.gM, hZ.gV, hZ.dV, hZ.LV, hZ.MV⟩
                  rw [← hwB, heap_setCell_cells hZ.hg _ _]; rfl
                have cB := cell_touch tB cZ (by simpa using hBl)
                have cB6 := hB.cell 6 rfl
                have HB := Lib.hid hB
                have TB := Lib.hid (tZ.trans tB)
                clear h9 hZ tZ tB hB tA cl9 hw9 c48 f4
                go_upto_region 24 with fail
                clear hwB
                go_wp2_with ((with_reducible apply wc_clear uMapPage HB.out.hV); exact rfl; exact rfl; exact rfl; intro w5 t5 hm5; go_frame; have HT5 := Lib.hid t5; have HM5 := Lib.hid hm5; clear t5 hm5)
                go_ret
                rw [EC.out]
                have hb := HB.out
                refine ⟨rfl, ⟨HT5.out.heap hb.hg (by simpa using hb.gV), hb.hD.touch HT5.out (by simpa using hb.dV) (by simpa using hb.LV) (by simpa using hb.MV), HM5.out, hb.gd, hb.gL, hb.gM, hb.gV, hb.dV, hb.LV, hb.MV⟩, ?_⟩
                exact ((T1.out.trans T6.out).mono (by simp)).trans ((Q2.out.mono (by simp)).trans ((TB.out.mono (by simp)).trans (HT5.out.mono (by simp))))
              · rw [if_neg hz] at EC
                obtain ⟨S2, hS2⟩ : ∃ S2, (runS S (S.kept.map LogS.homeStep ++ [LogS.flushStep, LogS.raise])).2 = S2 := ⟨_, rfl⟩
                obtain ⟨er, her⟩ : ∃ er, (runS S (S.kept.map LogS.homeStep ++ [LogS.flushStep, LogS.raise])).1 = er := ⟨_, rfl⟩
                rw [her, hS2] at CALL
                rw [her, hS2] at EC
                rw [her] at hz
                have hz' : (er != 0) = true := by simp [hz]
                clear hS2 hr her
                go_wp2_with (first | (at_builtin; (with_reducible apply wc_append_vals fnsT (by decide) (m := [fnFlush d, fnRaise w.heap.size]) O5.out (by simp; omega) (by simp; omega)); exact rfl; exact rfl; exact rfl; exact rfl; exact V5.out; (intro u hu; simp at hu; rcases hu with rfl | rfl <;> rfl); intro v7 w7 ho7 ht7; go_frame; have HO7 := Lib.hid ho7; have HT7 := Lib.hid ht7; clear ho7 ht7) | (go_at_call 64; refine (CALL.out _ _ HO7.out HT7.out).mono ?_; rintro e w8 ⟨rfl, q1, q2, q3, _⟩; have Q1 := Lib.hid q1; have Q2 := Lib.hid q2; have clq := q3; clear q1 q2 q3) | (go_at_call 87; refine (told_any Q1.out er).mono ?_; rintro e w9 ⟨rfl, q1, q2⟩; have Q3 := Lib.hid q1; have Q4 := Lib.hid (Q2.out.trans (q2.mono (by simp))); clear q1 q2))
                go_ret
                rw [EC.out]
                exact ⟨rfl, Q3.out, ((T1.out.trans T6.out).mono (by simp)).trans (Q4.out.mono (by simp))⟩
        · go_roundg cnt4
          case measure => exact HLT.out
          case rel => exact KeyRel.next I1.out O1.out N1.out M1.out G1.out TR.out (Nat.le_refl _) HS.out HG.out HT.out HI.out _ HO6.out HT6.out
end Go.Proofs.YtkjgbhpnlgcinaaGreatDoor
/-
  A record is written: the closures of package wal's write.
-/
namespace Go.Cib
open Go Go.RowKit
/-- Images in memory, one behind the other. -/
def ImgsAt (w : World) (a : Option Addr) (l : List (Int × Page)) : Prop := ∀ (i : Nat) (q : Int × Page), l[i]? = some q → ∃ (b : Nat) (c : Array Value) (e : TypeId) (fr : Nat × Nat), a = some ⟨b, 0, none⟩ ∧ w.heap[b]? = some (.cells c e fr) ∧ i * 481 + 481 ≤ c.size ∧ c.extract (i * 481) (i * 481 + 481) = imageA q.1 q.2
theorem ImgsAt.touch {w w' : World} {a : Option Addr} {l : List (Int × Page)} {X : List Nat} (h : ImgsAt w a l) (ht : Tch X w w') (hX : ∀ b, a = some ⟨b, 0, none⟩ → b ∉ X) : ImgsAt w' a l := by
  intro i q hi
  obtain ⟨b, c, e, fr, h1, h2, h3, h4⟩ := h i q hi
  exact ⟨b, c, e, fr, h1, ht.heap h2 (hX b h1), h3, h4⟩
theorem ImgsAt.later {w w' : World} {a : Option Addr} {l : List (Int × Page)} (h : ImgsAt w a l) (ht : Tch [] w w') : ImgsAt w' a l := h.touch ht (by simp)
section
variable {P : Program} {T e : TypeId} {ops : Array Oper} {rest : List Oper} {a : Act} {w : World} {Q : Exit → Act → World → Prop} {dst : Option Tmp} {ty : TypeId} {pos : String} {af : Array Edge} {x y : Operand}
/-- A whole image is read out of a list. -/
theorem wc_load_img (hT : AggT P T 481) {l : List (Int × Page)} {i : Nat} {q : Int × Page} {b : Nat} (hb : ImgsAt w (some ⟨b, 0, none⟩) l) (hi : l[i]? = some q) (hx : a.eval x = .pointer (some ⟨b, i * 481, none⟩))
    (h : wpList P ops Q rest (a.put dst (.agg (imageA q.1 q.2))) w) : wpList P ops Q (⟨dst, .load T x, ty, pos, af, none⟩ :: rest) a w := by
  obtain ⟨b', c, e', fr, h1, h2, h3, h4⟩ := hb i q hi
  cases h1
  refine wc_value rfl ?_ h
  rw [exec_load_agg hT rfl hx h2 h3, h4]
/-- The page of an image in a variable. -/
theorem wc_load_imgpage (hT : AggT P T 480) {n : Int} {p : Page} {b : Nat} {e' : TypeId} {fr : Nat × Nat} (hb : w.heap[b]? = some (.cells (imageA n p) e' fr)) (hx : a.eval x = .pointer (some ⟨b, 1, none⟩))
    (h : wpList P ops Q rest (a.put dst (.agg (secA p))) w) : wpList P ops Q (⟨dst, .load T x, ty, pos, af, none⟩ :: rest) a w := by
  refine wc_value rfl ?_ h
  rw [exec_load_agg hT rfl hx hb (by rw [size_imageA]; omega)]
  congr 2
  have : (imageA n p).extract 1 (1 + 480) = secA p := by
    apply Array.toList_inj.1
    rw [Array.toList_extract, List.extract_eq_take_drop]
    have h1 : (imageA n p).toList = .int .i64 n :: (secA p).toList := by simp [imageA]
    rw [h1, List.drop_succ_cons, List.drop_zero, List.take_of_length_le (by rw [Array.length_toList, size_secA]; omega)]
  rw [this]
end
namespace LogS
def putStep (f : FrameV) (s : LogS × Nat) : Int × (LogS × Nat) := ((s.1.disk.write (s.2 : Int) (s.1.rec_ f).sector).1, ({ s.1 with disk := (s.1.disk.write (s.2 : Int) (s.1.rec_ f).sector).2 }, s.2 + 1))
def flush2 (s : LogS × Nat) : Int × (LogS × Nat) := (s.1.disk.flush.1, ({ s.1 with disk := s.1.disk.flush.2 }, s.2))
theorem runS_one {σ : Type} (f : σ → Int × σ) (s : σ) : runS s [f] = f s := by
  unfold runS
  split
  · rename_i h; exact Prod.ext h.symm rfl
  · rfl
theorem runS_put (rest : List (LogS × Nat → Int × (LogS × Nat))) : ∀ (fs : List FrameV) (S : LogS) (pl : Nat),
    ((S.disk.acts (S.putsA pl fs)).1 = 0 → runS (S, pl) (fs.map putStep ++ rest) = runS ({ S with disk := (S.disk.acts (S.putsA pl fs)).2 }, pl + fs.length) rest) ∧
    ((S.disk.acts (S.putsA pl fs)).1 ≠ 0 → (runS (S, pl) (fs.map putStep ++ rest)).1 = (S.disk.acts (S.putsA pl fs)).1 ∧ (runS (S, pl) (fs.map putStep ++ rest)).2.1 = { S with disk := (S.disk.acts (S.putsA pl fs)).2 })
  | [], S, pl => ⟨fun _ => rfl, fun h => absurd rfl h⟩
  | f :: fs, S, pl => by
    have ih := runS_put rest fs { S with disk := (S.disk.write (pl : Int) (S.rec_ f).sector).2 } (pl + 1)
    have e1 : (S.disk.acts (S.putsA pl (f :: fs))) = if (S.disk.write (pl : Int) (S.rec_ f).sector).1 = 0 then (S.disk.write (pl : Int) (S.rec_ f).sector).2.acts (S.putsA (pl + 1) fs) else S.disk.write (pl : Int) (S.rec_ f).sector := rfl
    have e2 : runS (S, pl) ((f :: fs).map putStep ++ rest) = if (S.disk.write (pl : Int) (S.rec_ f).sector).1 = 0 then runS ({ S with disk := (S.disk.write (pl : Int) (S.rec_ f).sector).2 }, pl + 1) (fs.map putStep ++ rest) else putStep f (S, pl) := rfl
    have e3 : ∀ (D : DiskS) (q : Nat) (gs : List FrameV), ({ S with disk := D } : LogS).putsA q gs = S.putsA q gs := by
      intro D q gs
      induction gs generalizing q with
      | nil => rfl
      | cons x xs ih2 => unfold putsA; rw [ih2]; rfl
    rw [e3] at ih
    rw [e1, e2]
    by_cases h : (S.disk.write (pl : Int) (S.rec_ f).sector).1 = 0
    · rw [if_pos h, if_pos h]
      refine ⟨fun h2 => ?_, fun h2 => ih.2 h2⟩
      rw [ih.1 h2, List.length_cons, show pl + 1 + fs.length = pl + (fs.length + 1) by omega]
    · rw [if_neg h, if_neg h]
      exact ⟨fun h2 => absurd h2 h, fun _ => ⟨rfl, rfl⟩⟩
theorem putsA_disk (S : LogS) (D : DiskS) (q : Nat) (gs : List FrameV) : ({ S with disk := D } : LogS).putsA q gs = S.putsA q gs := by
  induction gs generalizing q with
  | nil => rfl
  | cons x xs ih2 => unfold putsA; rw [ih2]; rfl
/-- The steps of a record are what it asks of the disk. -/
theorem runS_write (S : LogS) (w : List (Nat × Page)) (fs : List FrameV) (hfs : fs = recFrames w) :
    (runS (S, 2 + S.used) (fs.map putStep ++ [flush2, putStep (frame4 w.length), flush2])).1 = (S.disk.acts (S.writeAs w)).1 ∧
      (runS (S, 2 + S.used) (fs.map putStep ++ [flush2, putStep (frame4 w.length), flush2])).2.1 = { S with disk := (S.disk.acts (S.writeAs w)).2 } := by
  subst hfs
  obtain ⟨h1, h2⟩ := runS_put [flush2, putStep (frame4 w.length), flush2] (recFrames w) S (2 + S.used)
  have hlen : (recFrames w).length = w.length + 1 := by simp [recFrames, imgFrames]
  unfold writeAs
  rw [DiskS.acts_append]
  by_cases a1 : (S.disk.acts (S.putsA (2 + S.used) (recFrames w))).1 = 0
  · rw [h1 a1, if_pos a1, hlen, show 2 + S.used + (w.length + 1) = 3 + S.used + w.length by omega]
    generalize (S.disk.acts (S.putsA (2 + S.used) (recFrames w))).2 = D1
    rw [DiskS.acts_cons]
    have e : ∀ r, runS ({ S with disk := D1 }, 3 + S.used + w.length) (flush2 :: r) = if D1.flush.1 = 0 then runS ({ S with disk := D1.flush.2 }, 3 + S.used + w.length) r else (D1.flush.1, ({ S with disk := D1.flush.2 }, 3 + S.used + w.length)) := fun r => rfl
    rw [e]
    by_cases a2 : D1.flush.1 = 0
    · rw [if_pos a2, if_pos (show (D1.act .flush).1 = 0 from a2)]
      obtain ⟨h3, h4⟩ := runS_put [flush2] [frame4 w.length] { S with disk := D1.flush.2 } (3 + S.used + w.length)
      rw [putsA_disk] at h3 h4
      rw [DiskS.acts_append]
      show (runS ({ S with disk := D1.flush.2 }, 3 + S.used + w.length) ([frame4 w.length].map putStep ++ [flush2])).1 = _ ∧ _
      by_cases a3 : (D1.flush.2.acts (S.putsA (3 + S.used + w.length) [frame4 w.length])).1 = 0
      · have e4 := h3 a3
        rw [if_pos (show ((D1.act .flush).2.acts (S.putsA (3 + S.used + w.length) [frame4 w.length])).1 = 0 from a3), DiskS.acts_one]
        show (runS ({ S with disk := D1.flush.2 }, 3 + S.used + w.length) ([frame4 w.length].map putStep ++ [flush2])).1 = _ ∧ (runS ({ S with disk := D1.flush.2 }, 3 + S.used + w.length) ([frame4 w.length].map putStep ++ [flush2])).2.1 = _
        rw [e4, runS_one]
        exact ⟨rfl, rfl⟩
      · have e4 := h4 a3
        rw [if_neg (show ¬ ((D1.act .flush).2.acts (S.putsA (3 + S.used + w.length) [frame4 w.length])).1 = 0 from a3)]
        exact e4
    · rw [if_neg a2, if_neg (show ¬ (D1.act .flush).1 = 0 from a2)]
      exact ⟨rfl, rfl⟩
  · have e4 := h2 a1
    rw [if_neg a1]
    exact e4
end LogS
end Go.Cib
namespace Go.Proofs.YtkjgbhpnlgcinaaGreatDoor
open Go.RowKit Go.Cib

set_option maxRecDepth 20000 in
set_option maxHeartbeats 1000000 in
theorem put_any {w : World} {g d L M V Bl Bp pl : Nat} {S : LogS} (h : LogAt w g d L M V S) (cl : w.cell? ⟨Bl, 0, none⟩ = some (.pointer (some ⟨g, 0, none⟩))) (cp : w.heap[Bp]? = some (.cells #[.int .i64 pl] 3)) (hBp : Bp ∉ [g, d, L, M, V, Bl]) (hpl : pl ≤ 100000)
    (hg : S.gen < 18446744073709551616) (hr : S.records < 18446744073709551616) (f : FrameV) (hf : f.Ok) :
    Calls Tryz.prog 126 #[.agg (frameA f), .pointer (some ⟨Bl, 0, none⟩), .pointer (some ⟨Bp, 0, none⟩)] w fun e w' =>
      e = .returned (.int .i64 (LogS.putStep f (S, pl)).1) ∧ LogAt w' g d L M V (LogS.putStep f (S, pl)).2.1 ∧ w'.heap[Bp]? = some (.cells #[.int .i64 (pl + 1 : Nat)] 3) ∧ Tch [Bp, d, L, M] w w' := by
  obtain ⟨w1, hw1⟩ : ∃ w1, w.alloc (.cells (frameA f) 155) = w1 := ⟨_, rfl⟩
  have t1 : Tch [] w w1 := by rw [← hw1]; exact (Tch.refl _ _).alloc _
  have hF : w1.heap[w.heap.size]? = some (.cells (frameA f) 155) := by rw [← hw1]; exact heap_alloc_new _ _
  have h1 := h.touch t1 (by simp) (by simp) (by simp) (by simp) (by simp)
  have cl1 := cell_old t1 cl
  have c3 := h1.cell 3 rfl
  have c5 := h1.cell 5 rfl
  have f1 := frozen_of_row w1 w.heap.size 1 _ _ hF
  have f2 := frozen_of_row w1 w.heap.size 2 _ _ hF
  have hBl : Bl < w.heap.size := block_lt_of_cell cl
  have hgw : g < w.heap.size := lt_of_heap h.hg
  obtain ⟨F, hFe⟩ : ∃ F, w.heap.size = F := ⟨_, rfl⟩
  have hFold : F ∉ [g, d, L, M, V, Bl, Bp] := by
    have a2 := lt_of_heap h.hD.hd
    have a3 := lt_of_heap h.hD.hL
    have a4 := h.hD.hM.lt
    have a5 := h.hV.lt
    have a6 := lt_of_heap cp
    simp; omega
  simp only [List.mem_cons, List.not_mem_nil, or_false, not_or] at hFold hBp
  have HW1 := Lib.hid hw1
  have HFE := Lib.hid hFe
  rw [hFe] at hF f1 f2 hBl hgw
  have k1 : (frameA f)[1]? = some (.int .u64 f.gen) := by unfold frameA; rw [Array.getElem?_append_left (by simp)]; rfl
  have k2 : (frameA f)[2]? = some (.int .u64 f.num) := by unfold frameA; rw [Array.getElem?_append_left (by simp)]; rfl
  have cF1 : w1.cell? ⟨F, 1, none⟩ = some (.int .u64 f.gen) := by rw [cell_of_row w1 F 1 _ _ _ hF]; exact k1
  obtain ⟨w2, hw2⟩ : ∃ w2, w1.setCell ⟨F, 1, none⟩ (.int .u64 S.gen) = w2 := ⟨_, rfl⟩
  have t2 : Tch [F] w1 w2 := by rw [← hw2]; exact (Tch.refl _ _).setCell (by simp) _
  have hF2 : w2.heap[F]? = some (.cells (frameA { f with gen := S.gen }) 155) := by rw [← hw2, heap_setCell_cells hF, frame_set1]
  have h2 := h1.touch t2 (by simp; omega) (by simp; omega) (by simp; omega) (by simp; omega) (by simp; omega)
  have cl2 := cell_touch t2 cl1 (by simp; omega)
  have c32 := h2.cell 3 rfl
  have c52 := h2.cell 5 rfl
  have H1 := Lib.hid h1
  have H2 := Lib.hid h2
  have T1 := Lib.hid t1
  have T2 := Lib.hid t2
  have F2 := Lib.hid hF2
  have CP := Lib.hid cp
  have hFF := hFold
  clear hw1 t1 h h1 hFe cl k1 k2 h2 t2 hF2 cp
  go_enter Tryz.func126, Tryz.ntmps126
  go_upto_region 1 with ((with_reducible refine wc_box_agg ?_ ?_); exact rfl; go_frame)
  rw [HW1.out, HFE.out]
  refine wp_region_one 10 9 [.pointer (some ⟨g, 0, none⟩), .pointer (some ⟨g, 0, none⟩), .pointer (some ⟨g, 3, none⟩), .int .u64 S.gen, .pointer (some ⟨g, 0, none⟩), .pointer (some ⟨g, 0, none⟩), .pointer (some ⟨g, 5, none⟩), .int .u64 S.records, .pointer (some ⟨F, 1, none⟩), undef] _ (fun b w' => ∃ n, w' = World.drewN (cond b w2 w1) n) (by kernel_rfl) (by kernel_rfl) rfl
    (by simp only [putAll, List.take_succ_cons, List.take_zero]; go_frame; exact rfl) (by decide) ⟨1, rfl⟩ ?_ ?_ ?_
  · intro b
    have clb : (cond b w2 w1).cell? ⟨Bl, 0, none⟩ = some (.pointer (some ⟨g, 0, none⟩)) := by cases b; exact cl1; exact cl2
    have c3b : (cond b w2 w1).cell? ⟨g, 3, none⟩ = some (.int .u64 S.gen) := by cases b; exact c3; exact c32
    have c5b : (cond b w2 w1).cell? ⟨g, 5, none⟩ = some (.int .u64 S.records) := by cases b; exact c5; exact c52
    simp only [List.take_succ_cons, List.take_zero]
    refine stepsBut_cons (stepOk_value rfl fun W hW => ?_) (stepsBut_cons (stepOk_value rfl fun W hW => ?_) (stepsBut_cons (stepOk_value rfl fun W hW => ?_) (stepsBut_cons (stepOk_value rfl fun W hW => ?_) (stepsBut_cons (stepOk_value rfl fun W hW => ?_) (stepsBut_cons (stepOk_value rfl fun W hW => ?_) (stepsBut_cons (stepOk_value rfl fun W hW => ?_) (stepsBut_cons (stepOk_value rfl fun W hW => ?_) (stepsBut_cons (stepOk_value rfl fun W hW => ?_) (stepsBut_here stepsOk_nil)))))))))
    all_goals (obtain ⟨n, rfl⟩ := hW; go_simp)
  · intro o W ho hW
    simp only [List.getElem?_cons_zero, List.getElem?_cons_succ, Option.some.injEq] at ho
    subst ho
    obtain ⟨n, rfl⟩ := hW
    refine ⟨rfl, ?_⟩
    simp only [cond_false]
    go_simp
    exact ⟨rfl, n, by rw [← hw2]; rfl⟩
  intro wZ hZ
  obtain ⟨n, rfl⟩ := hZ
  simp only [cond_true, List.drop_succ_cons, List.drop_zero]
  obtain ⟨wZ, hwZ⟩ : ∃ wZ, w2.drewN n = wZ := ⟨_, rfl⟩
  have tZ : Tch [] w2 wZ := by rw [← hwZ]; exact tch_drewN w2 n
  have hFZ := tZ.heap F2.out (by simp)
  have fZ2 := frozen_of_row wZ F 2 _ _ hFZ
  have cFZ2 : wZ.cell? ⟨F, 2, none⟩ = some (.int .u64 f.num) := by
    rw [cell_of_row wZ F 2 _ _ _ hFZ]
    unfold frameA; rw [Array.getElem?_append_left (by simp)]; rfl
  have hpZ := (((T1.out.mono (S' := [F]) (by simp)).trans T2.out).drop (S' := []) (by have := HFE.out; simp; omega)).heap CP.out (by simp)
  have hpZ := tZ.heap hpZ (by simp)
  have cpZ : wZ.cell? ⟨Bp, 0, none⟩ = some (.int .i64 pl) := by rw [cell_of_row wZ Bp 0 _ _ _ hpZ]; rfl
  have fpZ := frozen_of_row wZ Bp 0 _ _ hpZ
  have hZ := H2.out.touch tZ (by simp) (by simp) (by simp) (by simp) (by simp)
  have clZ := cell_old tZ cl2
  obtain ⟨w3, hw3⟩ : ∃ w3, wZ.setCell ⟨F, 2, none⟩ (.int .u64 S.records) = w3 := ⟨_, rfl⟩
  have t3 : Tch [F] wZ w3 := by rw [← hw3]; exact (Tch.refl _ _).setCell (by simp) _
  have hF3 : w3.heap[F]? = some (.cells (frameA (S.rec_ f)) 155) := by rw [← hw3, heap_setCell_cells hFZ, frame_set2]; rfl
  have hp3 := t3.heap hpZ (by simp; omega)
  have cp3 : w3.cell? ⟨Bp, 0, none⟩ = some (.int .i64 pl) := by rw [cell_of_row w3 Bp 0 _ _ _ hp3]; rfl
  have fp3 := frozen_of_row w3 Bp 0 _ _ hp3
  have h3 := hZ.touch t3 (by simp; omega) (by simp; omega) (by simp; omega) (by simp; omega) (by simp; omega)
  have cl3 := cell_touch t3 clZ (by simp; omega)
  obtain ⟨p1, hp1⟩ : ∃ p1 : Nat, pl + 1 = p1 := ⟨_, rfl⟩
  have Wp : (pl : Int) + 1 = p1 := by omega
  have Wm : (p1 : Int) - 1 = pl := by omega
  obtain ⟨w4, hw4⟩ : ∃ w4, w3.setCell ⟨Bp, 0, none⟩ (.int .i64 ((pl : Int) + 1)) = w4 := ⟨_, rfl⟩
  have t4 : Tch [Bp] w3 w4 := by rw [← hw4]; exact (Tch.refl _ _).setCell (by simp) _
  have hF4 := t4.heap hF3 (by simp; omega)
  have hp4 : w4.heap[Bp]? = some (.cells #[.int .i64 p1] 3) := by rw [← hw4, Wp, heap_setCell_cells hp3]; rfl
  have h4 := h3.touch t4 (by simp; omega) (by simp; omega) (by simp; omega) (by simp; omega) (by simp; omega)
  have cl4 := cell_touch t4 cl3 (by simp; omega)
  have HWZ := Lib.hid hwZ
  have HW3 := Lib.hid hw3
  have HW4 := Lib.hid hw4
  have HP1 := Lib.hid hp1
  have TT : Hid (Tch [F, Bp] w1 w4) := (((T2.out.mono (by simp)).trans (tZ.mono (by simp))).trans (t3.mono (by simp))).trans (t4.mono (by simp))
  have H4 := Lib.hid h4
  have F4 := Lib.hid hF4
  have P4 := Lib.hid hp4
  rw [hwZ]
  have cpw : w3.cell? ⟨Bp, 0, none⟩ = some (.int .i64 pl) := cp3
  clear Wp hwZ hw3 hw4 tZ hFZ hpZ t3 hF3 hp3 t4 hF4 hp4 h4 hZ h3 hp1 F2 T2 H2
  go_upto_region 2 with fail
  rw [HW3.out]
  go_upto_region 3 with fail
  rw [HW4.out]
  have C0 : Hid (∀ w', Tch [] w4 w' → w'.cell? ⟨g, 0, none⟩ = some (.pointer (some ⟨d, 0, none⟩))) := fun w' h => cell_old h (H4.out.cell 0 rfl)
  have CL : Hid (∀ w', Tch [] w4 w' → w'.cell? ⟨Bl, 0, none⟩ = some (.pointer (some ⟨g, 0, none⟩))) := fun w' h => cell_old h cl4
  have CPP : Hid (∀ w', Tch [] w4 w' → w'.cell? ⟨Bp, 0, none⟩ = some (.int .i64 p1)) := fun w' h => cell_old h (by rw [cell_of_row w4 Bp 0 _ _ _ P4.out]; rfl)
  have CB : Hid (∀ w', Tch [] w4 w' → w'.heap[F]? = some (.cells (frameA (S.rec_ f)) 155)) := fun w' h => h.heap F4.out (by simp)
  have hok : (S.rec_ f).Ok := ⟨hg, hr, hf.idx⟩
  have CS : Hid (∀ w', Tch [] w4 w' → Calls Tryz.prog 115 #[.agg (frameA (S.rec_ f))] w' fun e w'' => e = .returned (.agg (secA (S.rec_ f).sector)) ∧ Tch [] w4 w'') := fun w' h => (sector_any (S.rec_ f) hok w').mono (by rintro e w'' ⟨h1, h2⟩; exact ⟨h1, h.trans h2⟩)
  refine wp_region_walk (C := fun w' => Tch [] w4 w') 8 (by kernel_rfl) (by kernel_rfl) ((Tch.refl _ _).drew) ?_
  simp only [List.take_succ_cons, List.take_zero, List.drop_succ_cons, List.drop_zero]
  (repeat (first
      | ((with_reducible refine wq_load_cell (by kernel_rfl) CL.out ?_ ?_ ?_); exact rfl; exact rfl; go_frame)
      | ((with_reducible refine wq_load_cell (by kernel_rfl) C0.out ?_ ?_ ?_); exact rfl; exact rfl; go_frame)
      | ((with_reducible refine wq_load_cell (by kernel_rfl) CPP.out ?_ ?_ ?_); exact rfl; exact rfl; go_frame)
      | ((with_reducible refine wq_load_frame frameTT CB.out ?_ ?_ ?_); exact rfl; exact rfl; go_frame)
      | ((with_reducible refine wq_fn cf_sector2 ?_ ?_ CS.out ?_); exact rfl; exact rfl; go_frame)
      | go_big_quiet_skip | (go_big_quiet_want; go_big_quiet_op; first | go_big_quiet_on | (refine ⟨_, fun _ _ => rfl, ?_⟩; go_big_quiet_on))))
  refine wpQuiet_nil ?_
  intro w5 ht5
  have H5 := Lib.hid (H4.out.touch ht5 (by simp) (by simp) (by simp) (by simp) (by simp))
  have P5 := Lib.hid (ht5.heap P4.out (by simp))
  have T5 := Lib.hid (TT.out.trans (ht5.mono (by simp)))
  clear ht5 C0 CL CPP CB CS
  go_wp2_with (go_at_call 66; refine (write_any H5.out.hD _ _).mono ?_; rintro e w' ⟨rfl, hq1, hq2⟩; have H6 := Lib.hid (H5.out.disk hq1 hq2); have P6 := Lib.hid (hq2.heap P5.out (by simp; omega)); have T6 := Lib.hid ((T5.out.mono (S' := [F, Bp, d, L, M]) (by simp)).trans (hq2.mono (by simp))); clear hq1 hq2)
  go_ret
  refine ⟨rfl, H6.out, ?_, ?_⟩
  · rw [HP1.out]; exact P6.out
  · exact ((T1.out.mono (by simp)).trans T6.out).drop (by intro k hk; have := HFE.out; simp at hk ⊢; omega)
end Go.Proofs.YtkjgbhpnlgcinaaGreatDoor
/-
  A record is written: the steps of package wal's write.
-/
namespace Go.Proofs.YtkjgbhpnlgcinaaGreatDoor
open Go.RowKit Go.Cib
abbrev fnPut (Bl Bp : Nat) : Value := .func (.func 126) #[] #[.pointer (some ⟨Bl, 0, none⟩), .pointer (some ⟨Bp, 0, none⟩)]
/-- What the steps of a record find in memory. -/
structure PutAt (w : World) (g d L M V Bl Bp Bf pl : Nat) (S : LogS) : Prop where
  at_ : LogAt w g d L M V S
  cl : w.cell? ⟨Bl, 0, none⟩ = some (.pointer (some ⟨g, 0, none⟩))
  cp : w.heap[Bp]? = some (.cells #[.int .i64 pl] 3)
  cf : w.cell? ⟨Bf, 0, none⟩ = some (fnPut Bl Bp)
  hBp : Bp ∉ [g, d, L, M, V, Bl]
  hpl : pl ≤ 100000
  gen : S.gen < 18446744073709551616
  rec_ : S.records < 18446744073709551616
theorem PutAt.touch {w w' : World} {g d L M V Bl Bp Bf pl : Nat} {S : LogS} (h : PutAt w g d L M V Bl Bp Bf pl S) (ht : Tch [] w w') : PutAt w' g d L M V Bl Bp Bf pl S :=
  ⟨h.at_.touch ht (by simp) (by simp) (by simp) (by simp) (by simp), cell_old ht h.cl, ht.heap h.cp (by simp), cell_old ht h.cf, h.hBp, h.hpl, h.gen, h.rec_⟩
theorem PutAt.put {w : World} {g d L M V Bl Bp Bf pl : Nat} {S : LogS} (h : PutAt w g d L M V Bl Bp Bf pl S) (f : FrameV) (hf : f.Ok) {w0 : World} (h0 : Tch [] w0 w) :
    Calls Tryz.prog 126 #[.agg (frameA f), .pointer (some ⟨Bl, 0, none⟩), .pointer (some ⟨Bp, 0, none⟩)] w fun e w' =>
      e = .returned (.int .i64 (LogS.putStep f (S, pl)).1) ∧ LogAt w' g d L M V (LogS.putStep f (S, pl)).2.1 ∧ w'.heap[Bp]? = some (.cells #[.int .i64 (pl + 1 : Nat)] 3) ∧ Tch [Bp, d, L, M] w0 w' :=
  (put_any h.at_ h.cl h.cp h.hBp h.hpl h.gen h.rec_ f hf).mono (by rintro e w' ⟨q1, q2, q3, q4⟩; exact ⟨q1, q2, q3, (h0.mono (by simp)).trans q4⟩)

set_option maxRecDepth 20000 in
theorem cf_numbers (args : Array Value) (w : World) : (callFunc 116 args).run Tryz.prog w = .ok (.enter 116 args) w := rfl
set_option maxRecDepth 20000 in
set_option maxHeartbeats 1000000 in
theorem wr2_any {w : World} {g d L M V Bl Bp Bf Bw Bn pl : Nat} {S : LogS} (h : PutAt w g d L M V Bl Bp Bf pl S) {ia na : Option Addr} {icap ncap : Nat} {names : List Nat} (cw : w.cell? ⟨Bw, 0, none⟩ = some (.slice ia names.length icap)) (cn : w.cell? ⟨Bn, 0, none⟩ = some (.slice na names.length ncap))
    (hN : NumsAt w na names) (hl : names.length ≤ 1000) (hn : ∀ n ∈ names, n < 4294967296) :
    Calls Tryz.prog 127 #[.pointer (some ⟨Bf, 0, none⟩), .pointer (some ⟨Bw, 0, none⟩), .pointer (some ⟨Bn, 0, none⟩)] w fun e w' =>
      e = .returned (.int .i64 (LogS.putStep (LogS.frame2 names) (S, pl)).1) ∧ LogAt w' g d L M V (LogS.putStep (LogS.frame2 names) (S, pl)).2.1 ∧ w'.heap[Bp]? = some (.cells #[.int .i64 (pl + 1 : Nat)] 3) ∧ Tch [Bp, d, L, M] w w' := by
  have H := Lib.hid h
  have CF : Hid (∀ w', Tch [] w w' → w'.cell? ⟨Bf, 0, none⟩ = some (fnPut Bl Bp)) := fun w' ht => cell_old ht h.cf
  have CW : Hid (∀ w', Tch [] w w' → w'.cell? ⟨Bw, 0, none⟩ = some (.slice ia names.length icap)) := fun w' ht => cell_old ht cw
  have CN : Hid (∀ w', Tch [] w w' → w'.cell? ⟨Bn, 0, none⟩ = some (.slice na names.length ncap)) := fun w' ht => cell_old ht cn
  have CS : Hid (∀ w', Tch [] w w' → Calls Tryz.prog 116 #[.slice na names.length ncap] w' fun e w'' => e = .returned (.agg (secA (numsPage names))) ∧ Tch [] w w'') := fun w' ht => (numbers_any (cap := ncap) (hN.later ht) hl hn).mono (by rintro e w'' ⟨h1, h2⟩; exact ⟨h1, ht.trans h2⟩)
  have W3 := convU32 names.length (by omega)
  have hok : (LogS.frame2 names).Ok := ⟨by show (0 : Nat) < _; omega, by show (0 : Nat) < _; omega, by show names.length < _; omega⟩
  have OK := Lib.hid hok
  have FILL : Hid (fillF FrameV.zero [(0, .int .u8 2), (3, .int .u32 names.length), (4, .agg (secA (numsPage names)))] = some (frameA (LogS.frame2 names))) := by
    show fillF FrameV.zero [(0, .int .u8 (2 : UInt8).toNat), (3, .int .u32 names.length), (4, .agg (secA (numsPage names)))] = _
    rw [fillF_kind, fillF_idx, fillF_page, fillF_nil]
    rfl
  clear h cw cn hN hn hok
  go_enter Tryz.func127, Tryz.ntmps127
  go_upto_region 1 with fail
  refine wp_region_walk (C := fun w' => Tch [] w w') 7 (by kernel_rfl) (by kernel_rfl) ((Tch.refl _ _).drew) ?_
  simp only [List.take_succ_cons, List.take_zero, List.drop_succ_cons, List.drop_zero]
  (repeat (first
      | ((with_reducible refine wq_load_cell (by kernel_rfl) CF.out ?_ ?_ ?_); exact rfl; exact rfl; go_frame)
      | ((with_reducible refine wq_load_cell (by kernel_rfl) CW.out ?_ ?_ ?_); exact rfl; exact rfl; go_frame)
      | ((with_reducible refine wq_load_cell (by kernel_rfl) CN.out ?_ ?_ ?_); exact rfl; exact rfl; go_frame)
      | ((with_reducible refine wq_build_fr FILL.out ?_ ?_ ?_); exact rfl; exact rfl; go_frame)
      | ((with_reducible refine wq_fn cf_numbers ?_ ?_ CS.out ?_); exact rfl; exact rfl; go_frame)
      | go_big_quiet_skip | (go_big_quiet_want; go_big_quiet_op; first | go_big_quiet_on | (refine ⟨_, fun _ _ => rfl, ?_⟩; go_big_quiet_on))))
  refine wpQuiet_nil ?_
  intro w2 ht2
  have CP := Lib.hid ((H.out.touch ht2).put (LogS.frame2 names) OK.out ht2)
  clear ht2 CF CW CN CS FILL
  go_wp2_with (go_at_call 126; refine CP.out.mono ?_; rintro e w' ⟨rfl, hq1, hq2, hq3⟩; have Q1 := Lib.hid hq1; have Q2 := Lib.hid hq2; have Q3 := Lib.hid hq3; clear hq1 hq2 hq3)
  go_ret
  exact ⟨rfl, Q1.out, Q2.out, Q3.out⟩

set_option maxRecDepth 20000 in
set_option maxHeartbeats 1000000 in
theorem wr3_any {w : World} {g d L M V Bl Bp Bf Bk Bx pl k : Nat} {S : LogS} (h : PutAt w g d L M V Bl Bp Bf pl S) (ck : w.cell? ⟨Bk, 0, none⟩ = some (.int .i64 k)) {n : Int} {x : Page} (cx : w.heap[Bx]? = some (.cells (imageA n x) 84)) (hk : k ≤ 1000) :
    Calls Tryz.prog 128 #[.pointer (some ⟨Bf, 0, none⟩), .pointer (some ⟨Bk, 0, none⟩), .pointer (some ⟨Bx, 0, none⟩)] w fun e w' =>
      e = .returned (.int .i64 (LogS.putStep (LogS.frame3 k x) (S, pl)).1) ∧ LogAt w' g d L M V (LogS.putStep (LogS.frame3 k x) (S, pl)).2.1 ∧ w'.heap[Bp]? = some (.cells #[.int .i64 (pl + 1 : Nat)] 3) ∧ Tch [Bp, d, L, M] w w' := by
  have cf := h.cf
  have W3 := convU32 k (by omega)
  have hok : (LogS.frame3 k x).Ok := ⟨by show (0 : Nat) < _; omega, by show (0 : Nat) < _; omega, by show k < _; omega⟩
  have CP := Lib.hid (h.put (LogS.frame3 k x) hok (Tch.refl _ _))
  have CX := Lib.hid cx
  have FILL : Hid (fillF FrameV.zero [(0, .int .u8 3), (3, .int .u32 k), (4, .agg (secA x))] = some (frameA (LogS.frame3 k x))) := by
    show fillF FrameV.zero [(0, .int .u8 (3 : UInt8).toNat), (3, .int .u32 k), (4, .agg (secA x))] = _
    rw [fillF_kind, fillF_idx, fillF_page, fillF_nil]
    rfl
  clear h cx hok
  go_enter Tryz.func128, Tryz.ntmps128
  go_wp2_with (first | ((with_reducible apply wc_load_imgpage pageT.agg CX.out); exact rfl; go_frame) | ((with_reducible refine wc_build_fr FILL.out ?_ ?_); exact rfl; go_frame) | (go_at_call 126; refine CP.out.mono ?_; rintro e w' ⟨rfl, hq1, hq2, hq3⟩; have Q1 := Lib.hid hq1; have Q2 := Lib.hid hq2; have Q3 := Lib.hid hq3; clear hq1 hq2 hq3))
  go_ret
  exact ⟨rfl, Q1.out, Q2.out, Q3.out⟩

set_option maxRecDepth 20000 in
set_option maxHeartbeats 1000000 in
theorem wr4_any {w : World} {g d L M V Bl Bp Bf Bw pl n : Nat} {S : LogS} (h : PutAt w g d L M V Bl Bp Bf pl S) {ia : Option Addr} {icap : Nat} (cw : w.cell? ⟨Bw, 0, none⟩ = some (.slice ia n icap)) (hn : n ≤ 1000) :
    Calls Tryz.prog 129 #[.pointer (some ⟨Bf, 0, none⟩), .pointer (some ⟨Bw, 0, none⟩)] w fun e w' =>
      e = .returned (.int .i64 (LogS.putStep (LogS.frame4 n) (S, pl)).1) ∧ LogAt w' g d L M V (LogS.putStep (LogS.frame4 n) (S, pl)).2.1 ∧ w'.heap[Bp]? = some (.cells #[.int .i64 (pl + 1 : Nat)] 3) ∧ Tch [Bp, d, L, M] w w' := by
  have cf := h.cf
  have W3 := convU32 n (by omega)
  have hok : (LogS.frame4 n).Ok := ⟨by show (0 : Nat) < _; omega, by show (0 : Nat) < _; omega, by show n < _; omega⟩
  have CP := Lib.hid (h.put (LogS.frame4 n) hok (Tch.refl _ _))
  have FILL : Hid (fillF FrameV.zero [(0, .int .u8 4), (3, .int .u32 n)] = some (frameA (LogS.frame4 n))) := by
    show fillF FrameV.zero [(0, .int .u8 (4 : UInt8).toNat), (3, .int .u32 n)] = _
    rw [fillF_kind, fillF_idx, fillF_nil]
    rfl
  clear h hok
  go_enter Tryz.func129, Tryz.ntmps129
  go_wp2_with (first | ((with_reducible refine wc_build_fr FILL.out ?_ ?_); exact rfl; go_frame) | (go_at_call 126; refine CP.out.mono ?_; rintro e w' ⟨rfl, hq1, hq2, hq3⟩; have Q1 := Lib.hid hq1; have Q2 := Lib.hid hq2; have Q3 := Lib.hid hq3; clear hq1 hq2 hq3))
  go_ret
  exact ⟨rfl, Q1.out, Q2.out, Q3.out⟩
end Go.Proofs.YtkjgbhpnlgcinaaGreatDoor
/-
  A record is written: package wal's write.
-/
namespace Go.Cib
open Go Go.RowKit
section
variable {P : Program} {T e : TypeId} {ops : Array Oper} {rest : List Oper} {a : Act} {w : World} {Q : Exit → Act → World → Prop} {dst : Option Tmp} {ty : TypeId} {pos : String} {af : Array Edge} {x y : Operand}
theorem wc_alloc_img (hz : ∃ i, P.info? T = some i ∧ i.zero = some (.agg (imageA 0 Arr.zero))) (h : wpList P ops Q rest (a.put dst (.pointer (some ⟨w.heap.size, 0, none⟩))) (w.alloc (.cells (imageA 0 Arr.zero) T))) :
    wpList P ops Q (⟨dst, .alloc T, ty, pos, af, none⟩ :: rest) a w := by
  obtain ⟨i, h1, h2⟩ := hz
  generalize imageA 0 Arr.zero = z at *
  exact wc_value rfl (exec_alloc h1 h2 rfl) h
theorem spl_img (n m : Int) (p q : Page) : spl (imageA n p) 0 (imageA m q) = imageA m q := by
  apply Array.toList_inj.1
  simp only [spl, List.take_zero, List.nil_append, size_imageA, Nat.zero_add]
  rw [List.drop_of_length_le (by rw [Array.length_toList, size_imageA]; omega), List.append_nil]
theorem wc_store_img (hT : AggT P T 481) {n m : Int} {p q : Page} {b : Nat} {e' : TypeId} (hb : w.heap[b]? = some (.cells (imageA n p) e')) (hx : a.eval x = .pointer (some ⟨b, 0, none⟩)) (hy : a.eval y = .agg (imageA m q))
    (h : wpList P ops Q rest (a.put dst undef) (w.setRow b (imageA m q))) : wpList P ops Q (⟨dst, .store T x y, ty, pos, af, none⟩ :: rest) a w := by
  refine wc_done rfl ?_ h
  rw [exec_store_agg hT rfl hx hy (size_imageA m q) (imageA_one m q) hb (by rw [size_imageA]; omega), spl_img]
theorem wc_store_img_new (hT : AggT P T 481) {n m : Int} {p q : Page} {e' : TypeId} {w0 : World} (hx : a.eval x = .pointer (some ⟨w0.heap.size, 0, none⟩)) (hy : a.eval y = .agg (imageA m q))
    (h : wpList P ops Q rest (a.put dst undef) (w0.alloc (.cells (imageA m q) e'))) : wpList P ops Q (⟨dst, .store T x y, ty, pos, af, none⟩ :: rest) a (w0.alloc (.cells (imageA n p) e')) := by
  refine wc_store_img hT (heap_alloc_new w0 _) hx hy ?_
  rw [setRow_alloc_new]; exact h
end
theorem cell_img0 {w : World} {b : Nat} {n : Int} {p : Page} {e : TypeId} {fr : Nat × Nat} (h : w.heap[b]? = some (.cells (imageA n p) e fr)) : w.cell? ⟨b, 0, none⟩ = some (.int .i64 n) := by
  rw [cell_of_row w b 0 _ _ _ h]
  unfold imageA; rw [Array.getElem?_append_left (by simp)]; rfl
end Go.Cib
namespace Go.Proofs.YtkjgbhpnlgcinaaGreatDoor
open Go.RowKit Go.Cib
theorem u32sT : OneT Tryz.prog 178 126 (.int .u32 0) 4 := .of (by kernel_rfl) (by kernel_rfl) rfl
abbrev fnList (Bf Bw Bn : Nat) : Value := .func (.func 127) #[] #[.pointer (some ⟨Bf, 0, none⟩), .pointer (some ⟨Bw, 0, none⟩), .pointer (some ⟨Bn, 0, none⟩)]
abbrev fnImg (Bf : Nat) (q : Nat × Nat) : Value := .func (.func 128) #[] #[.pointer (some ⟨Bf, 0, none⟩), .pointer (some ⟨q.1, 0, none⟩), .pointer (some ⟨q.2, 0, none⟩)]
abbrev fnEnd (Bf Bw : Nat) : Value := .func (.func 129) #[] #[.pointer (some ⟨Bf, 0, none⟩), .pointer (some ⟨Bw, 0, none⟩)]
theorem tch_own7 {X Y : List Nat} {W wr w5 w7 : World} {o : Obj} (h : Tch X W wr) (t5 : Tch [] wr w5) (t7 : Tch Y (w5.alloc o) w7) (hY : ∀ k ∈ Y, W.heap.size ≤ k) : Tch X W w7 := by
  have h6 : Tch (X ++ Y) W w7 := (((h.mono (S' := X ++ Y) (by simp +contextual)).trans (t5.mono (by simp))).alloc o).trans (t7.mono (by simp +contextual))
  exact h6.drop (fun k hk => by
    rcases List.mem_append.1 hk with h1 | h1
    · exact .inl h1
    · exact .inr (hY k h1))
theorem ownVals_one (w : World) (f : Value) (e : TypeId) : OwnVals (w.alloc (.cells #[f] e)) w.heap.size e (.slice (some ⟨w.heap.size, 0, none⟩) 1 1) [f] :=
  ⟨by simp, .inr ⟨w.heap.size, 1, #[f], rfl, Nat.le_refl _, heap_alloc_new _ _, Nat.le_refl _, by unfold maxLen; omega, rfl, rfl⟩⟩
/-- The numbers of the pages, gathered in a variable. -/
structure NamR (W wr : World) (Bn : Nat) (l : List Nat) (v : Value) : Prop where
  box : wr.heap[Bn]? = some (.cells #[v] 178)
  own : OwnVals wr W.heap.size 126 v (l.map fun (n : Nat) => .int .u32 (n : Int))
  tch : Tch [Bn] W wr
/-- The functions that write the images. -/
structure ImgR (W wr : World) (Bf Bw Bn : Nat) (ws : List (Nat × Page)) (j : Nat) (bs : List (Nat × Nat)) (v : Value) : Prop where
  len : bs.length = j
  own : OwnVals wr W.heap.size 47 v (fnList Bf Bw Bn :: bs.map (fnImg Bf))
  box : ∀ (i : Nat) (b : Nat × Nat) (q : Nat × Page), bs[i]? = some b → ws[i]? = some q → wr.heap[b.1]? = some (.cells #[.int .i64 i] 3) ∧ wr.heap[b.2]? = some (.cells (imageA q.1 q.2) 84) ∧ W.heap.size ≤ b.1 ∧ W.heap.size ≤ b.2
  tch : Tch [] W wr
theorem ImgR.next {W wr w5 w6 w7 : World} {Bf Bw Bn j b1 b2 : Nat} {ws : List (Nat × Page)} {bs : List (Nat × Nat)} {v v' : Value} {q : Nat × Page} (h : ImgR W wr Bf Bw Bn ws j bs v) (hq : ws[j]? = some q) (t5 : Tch [] wr w5)
    (hb1 : w5.heap[b1]? = some (.cells #[.int .i64 j] 3)) (hb2 : w5.heap[b2]? = some (.cells (imageA q.1 q.2) 84)) (hW1 : W.heap.size ≤ b1) (hW2 : W.heap.size ≤ b2) (t6 : Tch [] w5 w6)
    (o7 : OwnVals w7 W.heap.size 47 v' ((fnList Bf Bw Bn :: bs.map (fnImg Bf)) ++ [fnImg Bf (b1, b2)])) (t7 : Tch v.ownBlock.toList w6 w7) : ImgR W w7 Bf Bw Bn ws (j + 1) (bs ++ [(b1, b2)]) v' := by
  have own6 := (h.own.kept t5 (by simp)).kept t6 (by simp)
  refine ⟨by rw [List.length_append, h.len]; rfl, by simpa using o7, ?_, tch_own (h.tch.trans (t5.trans t6)) t7 (fun k hk => (own6.lt k hk).1)⟩
  have fin : ∀ {b : Nat} {c : Array Value} {e : TypeId}, w6.heap[b]? = some (.cells c e) → e ≠ 47 → w7.heap[b]? = some (.cells c e) := fun hb he => t7.heap hb (own6.ne hb he)
  intro i c r hi hr
  rcases Nat.lt_or_ge i bs.length with hlt | hge
  · rw [List.getElem?_append_left hlt] at hi
    obtain ⟨g1, g2, g3, g4⟩ := h.box i c r hi hr
    exact ⟨fin (t6.heap (t5.heap g1 (by simp)) (by simp)) (by decide), fin (t6.heap (t5.heap g2 (by simp)) (by simp)) (by decide), g3, g4⟩
  · rw [List.getElem?_append_right hge, h.len] at hi
    have hi0 : i - j = 0 := by
      rcases Nat.eq_zero_or_pos (i - j) with h0 | h0
      · exact h0
      · rw [List.getElem?_eq_none (by simp; omega)] at hi; cases hi
    have hij : i = j := by have := h.len; omega
    subst hij
    rw [hi0] at hi
    simp at hi
    subst hi
    rw [hq] at hr
    cases hr
    exact ⟨fin (t6.heap hb1 (by simp)) (by decide), fin (t6.heap hb2 (by simp)) (by decide), hW1, hW2⟩

theorem write_lt {D : DiskS} {i : Int} {s : Sec} (h : (D.write i s).1 = 0) : 0 ≤ i ∧ i < D.lasts.length := by
  unfold DiskS.write at h
  split at h
  · rename_i hm
    unfold DiskS.may at hm
    repeat' split at hm
    all_goals first | (exfalso; omega) | omega
  · rename_i hm; exact absurd h hm
/-- What the steps of a record keep; what holds behind one that failed. -/
structure PutE (W w' : World) (g d L M V Bp : Nat) (S : LogS) (s : LogS × Nat) : Prop where
  at_ : LogAt w' g d L M V s.1
  same : ∃ D, s.1 = { S with disk := D }
  tch : Tch [Bp, d, L, M] W w'
structure PutR (W w' : World) (g d L M V Bl Bp Bf : Nat) (S : LogS) (s : LogS × Nat) : Prop where
  at_ : PutAt w' g d L M V Bl Bp Bf s.2 s.1
  same : ∃ D, s.1 = { S with disk := D }
  tch : Tch [Bp, d, L, M] W w'
theorem put_stepE {g d L M V Bl Bp Bf : Nat} {S : LogS} {W : World} {fid : FuncId} {cap : Array Value} {f : FrameV} (hcf : ∀ (args : Array Value) (w : World), (callFunc fid args).run Tryz.prog w = .ok (.enter fid args) w) (hBl : Bl ∉ [Bp, d, L, M]) (hBf : Bf ∉ [Bp, d, L, M])
    (hc : ∀ S' pl w', PutAt w' g d L M V Bl Bp Bf pl S' → Tch [Bp, d, L, M] W w' → Calls Tryz.prog fid cap w' fun e w'' => e = .returned (.int .i64 (LogS.putStep f (S', pl)).1) ∧ LogAt w'' g d L M V (LogS.putStep f (S', pl)).2.1 ∧ w''.heap[Bp]? = some (.cells #[.int .i64 (pl + 1 : Nat)] 3) ∧ Tch [Bp, d, L, M] w' w'') :
    StepE Tryz.prog (fun s w' => PutR W w' g d L M V Bl Bp Bf S s) (fun s w' => PutE W w' g d L M V Bp S s) (.func (.func fid) #[] cap) (LogS.putStep f) :=
  ⟨_, _, _, rfl, hcf, fun s w h => by
    obtain ⟨S', pl⟩ := s
    obtain ⟨D, hD⟩ := h.same
    simp only at hD
    subst hD
    rw [Array.empty_append]
    refine (hc _ pl w h.at_ h.tch).mono ?_
    rintro e w' ⟨q1, q2, q3, q4⟩
    refine ⟨q1, fun hz => ⟨⟨q2, cell_touch q4 h.at_.cl hBl, q3, cell_touch q4 h.at_.cf hBf, h.at_.hBp, ?_, h.at_.gen, h.at_.rec_⟩, ⟨_, rfl⟩, h.tch.trans q4⟩, ⟨q2, ⟨_, rfl⟩, h.tch.trans q4⟩⟩
    have h1 := (write_lt hz).2
    have h2 : D.lasts.length ≤ 16384 := h.at_.at_.hD.ok.size
    simp only [LogS.putStep] at h1 ⊢
    omega⟩
set_option maxRecDepth 20000 in
theorem flush_stepE {g d L M V Bl Bp Bf : Nat} {S : LogS} {W : World} (hBl : Bl ∉ [Bp, d, L, M]) (hBf : Bf ∉ [Bp, d, L, M]) :
    StepE Tryz.prog (fun s w' => PutR W w' g d L M V Bl Bp Bf S s) (fun s w' => PutE W w' g d L M V Bp S s) (fnFlush d) LogS.flush2 :=
  ⟨_, _, _, rfl, fun _ _ => rfl, fun s w h => by
    obtain ⟨S', pl⟩ := s
    obtain ⟨D, hD⟩ := h.same
    simp only at hD
    subst hD
    refine (flush_any h.at_.at_.hD).mono ?_
    rintro e w' ⟨q1, q2, q3⟩
    have q4 : Tch [Bp, d, L, M] w w' := q3.mono (by simp)
    have hb := h.at_.hBp
    simp only [List.mem_cons, List.not_mem_nil, or_false, not_or] at hb
    exact ⟨q1, fun _ => ⟨⟨h.at_.at_.disk q2 q3, cell_touch q4 h.at_.cl hBl, q3.heap h.at_.cp (by simp; omega), cell_touch q4 h.at_.cf hBf, h.at_.hBp, h.at_.hpl, h.at_.gen, h.at_.rec_⟩, ⟨_, rfl⟩, h.tch.trans q4⟩, ⟨h.at_.at_.disk q2 q3, ⟨_, rfl⟩, h.tch.trans q4⟩⟩⟩

set_option maxRecDepth 20000 in
set_option maxHeartbeats 2000000 in
theorem write8_any {w : World} {g d L M V : Nat} {S : LogS} (h : LogAt w g d L M V S) (ok : S.Ok) {ia : Option Addr} {icap : Nat} {ws : List (Nat × Page)} (hI : ImgsAt w ia (ws.map fun q => ((q.1 : Int), q.2))) (hws : ∀ q ∈ ws, q.1 < 16384) (hn : ws.length ≤ 120) :
    Calls Tryz.prog 86 #[.pointer (some ⟨g, 0, none⟩), .slice ia ws.length icap] w fun e w' =>
      e = .returned (.int .i64 (S.disk.acts (S.writeAs ws)).1) ∧ LogAt w' g d L M V { S with disk := (S.disk.acts (S.writeAs ws)).2 } ∧ Tch [d, L, M] w w' := by
  obtain ⟨m, hm⟩ : ∃ m, ws.length = m := ⟨_, rfl⟩
  rw [hm] at hn ⊢
  have hgw : g < w.heap.size := lt_of_heap h.hg
  obtain ⟨pl, hpl⟩ : ∃ pl, 2 + S.used = pl := ⟨_, rfl⟩
  have hu : pl ≤ 4002 := by have := ok.used; have := ok.log4; omega
  have c4 := h.cell 4 rfl
  have Wp : (2 : Int) + S.used = pl := by omega
  obtain ⟨W, hW⟩ : ∃ W, ((((w.alloc (.cells #[.pointer (some ⟨g, 0, none⟩)] 73)).alloc (.cells #[.slice ia m icap] 85)).alloc (.cells #[.int .i64 (wrap64 ((2 : Int) + S.used))] 3)).alloc (.cells #[fnPut w.heap.size (w.heap.size + 1 + 1)] 177)).alloc (.cells #[.slice none 0 0] 178) = W := ⟨_, rfl⟩
  have HW := Lib.hid hW
  have H := Lib.hid h
  have HII := Lib.hid hI
  have HWS := Lib.hid hws
  have HM := Lib.hid hm
  have OKK := Lib.hid ok
  have HPL := Lib.hid hpl
  have hmf : ∀ (fn : Fn) (first cap : Array Value) (w : World), (Instr.makeFunc fn first cap).run Tryz.prog w = .ok (.func fn first cap) w := fun _ _ _ _ => rfl
  have hsf : ∀ (p : Addr) (fn : Fn) (first cap : Array Value) (mo : Mode) (w : World), (store p (.func fn first cap) mo).run Tryz.prog w = stored Tryz.prog w p (.func fn first cap) mo := fun _ _ _ _ _ _ => run_store _ _ _ _ _ rfl
  clear h hI hws hm ok hW hpl Wp
  go_enter Tryz.func86, Tryz.ntmps86
  go_upto_region 4 with fail
  rw [HW.out]
  obtain ⟨Bl, hBl⟩ : ∃ Bl, w.heap.size = Bl := ⟨_, rfl⟩
  obtain ⟨Bw, hBw⟩ : ∃ Bw, Bl + 1 = Bw := ⟨_, rfl⟩
  obtain ⟨Bp, hBp⟩ : ∃ Bp, Bw + 1 = Bp := ⟨_, rfl⟩
  obtain ⟨Bf, hBf⟩ : ∃ Bf, Bp + 1 = Bf := ⟨_, rfl⟩
  obtain ⟨Bn, hBn⟩ : ∃ Bn, Bf + 1 = Bn := ⟨_, rfl⟩
  have tW : Tch [] w W := by rw [← HW.out]; exact (((((Tch.refl _ _).alloc _).alloc _).alloc _).alloc _).alloc _
  have el : W.heap[Bl]? = some (.cells #[.pointer (some ⟨g, 0, none⟩)] 73) := by
    rw [← HW.out, heap_alloc, if_neg (by simp; omega), heap_alloc, if_neg (by simp; omega), heap_alloc, if_neg (by simp; omega), heap_alloc, if_neg (by simp; omega), heap_alloc, if_pos hBl.symm]
  have ew : W.heap[Bw]? = some (.cells #[.slice ia m icap] 85) := by
    rw [← HW.out, heap_alloc, if_neg (by simp; omega), heap_alloc, if_neg (by simp; omega), heap_alloc, if_neg (by simp; omega), heap_alloc, if_pos (by simp; omega)]
  have ep : W.heap[Bp]? = some (.cells #[.int .i64 pl] 3) := by
    rw [← HW.out, heap_alloc, if_neg (by simp; omega), heap_alloc, if_neg (by simp; omega), heap_alloc, if_pos (by simp; omega)]
    rw [show wrap64 (2 + (S.used : Int)) = pl by unfold wrap64; have := HPL.out; omega]
  have ef : W.heap[Bf]? = some (.cells #[fnPut Bl Bp] 177) := by
    rw [← HW.out, heap_alloc, if_neg (by simp; omega), heap_alloc, if_pos (by simp; omega), hBl, hBw, hBp]
  have en : W.heap[Bn]? = some (.cells #[.slice none 0 0] 178) := by
    rw [← HW.out, heap_alloc, if_pos (by simp; omega)]
  rw [hBl, hBw, hBp, hBf, hBn]
  have ws1 : W.heap.size = Bn + 1 := by rw [← HW.out]; simp; omega
  have cw := cell_of_row W Bw 0 _ _ _ ew
  simp only [List.getElem?_toArray, List.getElem?_cons_zero] at cw
  have TW := Lib.hid tW
  have EL := Lib.hid el
  have EW := Lib.hid ew
  have EP := Lib.hid ep
  have EF := Lib.hid ef
  have EN := Lib.hid en
  have WS := Lib.hid ws1
  have HO := Lib.hid (And.intro hBl (And.intro hBw (And.intro hBp (And.intro hBf hBn))))
  clear tW el ew ep ef en ws1 hBl hBw hBp hBf hBn HW c4 hgw
  go_wp2_with fail
  go_loopg [21] m (fun q i wr => ∃ j v, OnAt m i q j ∧ NamR W wr Bn ((ws.take j).map (·.1)) v)
  case atStart => exact ⟨0, _, ⟨Nat.zero_le _, rfl, rfl⟩, ⟨EN.out, ownVals_nil _ _ _, Tch.refl _ _⟩⟩
  case round =>
    obtain ⟨j, v, ⟨hj, rfl, rfl⟩, hnr⟩ := hrel
    have NR := Lib.hid hnr
    clear hnr
    by_cases hjm : j < m
    · obtain ⟨q, hq⟩ : ∃ q, ws[j]? = some q := ⟨_, List.getElem?_eq_getElem (by rw [HM.out]; exact hjm)⟩
      have hq2 : (ws.map fun q => ((q.1 : Int), q.2))[j]? = some ((q.1 : Int), q.2) := by rw [List.getElem?_map, hq]; rfl
      obtain ⟨ib, ic, ie, ifr, rfl, _⟩ := HII.out j _ hq2
      have tr : Tch [Bn] w wr := (TW.out.mono (by simp)).trans NR.out.tch
      have hib : ib ≠ Bn := by
        obtain ⟨b', c', e', fr', h1, h2, _⟩ := HII.out j _ hq2
        cases h1
        have := lt_of_heap h2
        have := HO.out
        omega
      have IR := Lib.hid (HII.out.touch tr (by intro b hb; cases hb; simpa using hib))
      have HQ := Lib.hid hq
      have HQ2 := Lib.hid hq2
      have hqb := HWS.out q (List.mem_of_getElem? hq)
      clear hq hq2 tr
      go_upto_region 7 with (first | ((with_reducible apply wc_load_img imgT IR.out HQ2.out); exact rfl; go_frame) | ((with_reducible refine wc_alloc_img imgZero ?_); go_frame) | ((with_reducible apply wc_store_img_new imgT); exact rfl; exact rfl; go_frame))
      obtain ⟨w5, hw5⟩ : ∃ w5, wr.alloc (.cells (imageA q.1 q.2) 84) = w5 := ⟨_, rfl⟩
      rw [hw5]
      have t5 : Tch [] wr w5 := by rw [← hw5]; exact (Tch.refl _ _).alloc _
      have b5 : w5.heap[wr.heap.size]? = some (.cells (imageA q.1 q.2) 84) := by rw [← hw5]; exact heap_alloc_new _ _
      have c5 := cell_img0 b5
      have bn5 := t5.heap NR.out.box (by simp)
      have cn5 : w5.cell? ⟨Bn, 0, none⟩ = some v := by rw [cell_of_row w5 Bn 0 _ _ _ bn5]; rfl
      have fn5 := frozen_of_row w5 Bn 0 _ _ bn5
      have own5 := NR.out.own.kept t5 (by simp)
      have hWr := NR.out.tch.size
      have hw6 := t5.size
      have W3 := convU32 q.1 (by omega)
      have O5 : Hid (OwnVals (w5.alloc (.cells #[.int .u32 q.1] 126)) W.heap.size 126 v (((ws.take j).map (·.1)).map fun (n : Nat) => .int .u32 (n : Int))) := own5.kept ((Tch.refl [] _).alloc _) (by simp)
      have V5 : Hid (ValsAt (w5.alloc (.cells #[.int .u32 q.1] 126)) (some ⟨w5.heap.size, 0, none⟩) [.int .u32 q.1]) := valsAt_row (heap_alloc_new _ _)
      have hlen : (((ws.take j).map (·.1)).map fun (n : Nat) => Value.int .u32 (n : Int)).length ≤ 200 := by simp; omega
      have T5 := Lib.hid t5
      have B5 := Lib.hid b5
      have BN5 := Lib.hid bn5
      have HLEN := Lib.hid hlen
      have hvne : Bn ∉ v.ownBlock.toList := own5.ne bn5 (by decide)
      have BN6 : Hid (∀ w7, Tch v.ownBlock.toList (w5.alloc (.cells #[.int .u32 q.1] 126)) w7 → w7.heap[Bn]? = some (.cells #[v] 178)) := fun w7 h => h.heap (((Tch.refl [] w5).alloc _).heap bn5 (by simp)) hvne
      have hbn : Bn < w5.heap.size := lt_of_heap bn5
      clear hw5 t5 b5 own5 bn5 hlen hvne
      go_wp2_with ((with_reducible apply wc_append_vals u32sT (by decide) (m := [.int .u32 q.1]) O5.out (by simp; omega) (by have := HLEN.out; simp at this ⊢; omega)); exact rfl; exact rfl; exact rfl; exact rfl; exact V5.out; (intro u hu; simp at hu; subst hu; rfl); intro v7 w7 ho7 ht7; obtain ⟨vn, va, vc, hv7⟩ : ∃ vn va vc, v7 = .slice va vn vc := (by obtain ⟨a, c, e, _⟩ := ho7.vals; exact ⟨_, _, _, e⟩); subst hv7; go_frame; have HO7 := Lib.hid ho7; have HT7 := Lib.hid ht7; have bn7 := BN6.out _ ht7; have cn7 : w7.cell? ⟨Bn, 0, none⟩ = some v := (by rw [cell_of_row w7 Bn 0 _ _ _ bn7]; rfl); have fn7 := frozen_of_row w7 Bn 0 _ _ bn7; have BN7 := Lib.hid bn7; clear ho7 ht7 bn7)
      go_roundg (m - (j + 1))
      case measure => omega
      case rel =>
        refine ⟨j + 1, .slice va vn vc, ⟨by omega, by go_num, rfl⟩, ?_, ?_, ?_⟩
        · rw [heap_setCell_cells BN7.out]; rfl
        · have e : (ws.take (j + 1)).map (·.1) = (ws.take j).map (·.1) ++ [q.1] := by
            rw [List.take_add_one, HQ.out, List.map_append]; rfl
          rw [e, List.map_append]
          exact HO7.out.kept ((Tch.refl [Bn] _).setCell (by simp) _) (fun k hk hkb => by
            have hne := HO7.out.ne BN7.out (by decide)
            simp at hkb
            subst hkb
            exact hne (by rw [hk]; simp))
        · have t6 : Tch [Bn] W w7 := tch_own7 NR.out.tch T5.out HT7.out (fun k hk => (O5.out.lt k hk).1)
          exact t6.trans ((Tch.refl [Bn] _).setCell (by simp) _)
    · have hjm' : j = m := by omega
      subst hjm'
      obtain ⟨w2, hw2⟩ : ∃ w2, w2 = wr := ⟨_, rfl⟩
      subst hw2
      have hfull : ws.take j = ws := List.take_of_length_le (by rw [HM.out]; exact Nat.le_refl _)
      rw [hfull] at NR
      obtain ⟨na, ncap, hv, hvals, hblk⟩ := NR.out.own.vals
      have hnl : (List.map (fun (n : Nat) => Value.int IntKind.u32 (n : Int)) (ws.map (·.1))).length = j := by simp [HM.out]
      rw [hnl] at hv
      subst hv
      have HVALS := Lib.hid hvals
      have HBLK := Lib.hid hblk
      have TNW := NR.out.tch
      have hBO := HO.out
      have ewr := TNW.heap EW.out (by simp; omega)
      have cwr := cell_of_row w2 Bw 0 _ _ _ ewr
      simp only [List.getElem?_toArray, List.getElem?_cons_zero] at cwr
      have TN := Lib.hid TNW
      have hWr := TNW.size
      clear hfull hvals hblk hnl TNW ewr
      go_upto_region 10 with fail
      obtain ⟨w3, hw3⟩ : ∃ w3, w2.alloc (.cells #[fnList Bf Bw Bn] 47) = w3 := ⟨_, rfl⟩
      have t3 : Tch [] w2 w3 := by rw [← hw3]; exact (Tch.refl _ _).alloc _
      have o3 : OwnVals w3 w2.heap.size 47 (.slice (some ⟨w2.heap.size, 0, none⟩) 1 1) [fnList Bf Bw Bn] := by
        rw [← hw3]; exact ownVals_one _ _ _
      have cw3 := cell_old t3 cwr
      have T3 := Lib.hid t3
      have O3 := Lib.hid o3
      rw [hw3]
      clear hw3 t3 o3 cwr
      go_wp2_with fail
      go_loopg [10, 36] j (fun q v i w' => ∃ k bs, OnAt j i q k ∧ ImgR w2 w' Bf Bw Bn ws k bs v)
      case atStart => exact ⟨0, [], ⟨Nat.zero_le _, rfl, rfl⟩, ⟨rfl, O3.out, by simp, T3.out⟩⟩
      case round =>
        obtain ⟨k, bs, ⟨hk, rfl, rfl⟩, hir⟩ := hrel
        have IR := Lib.hid hir
        clear hir
        by_cases hkm : k < j
        · obtain ⟨q, hq⟩ : ∃ q, ws[k]? = some q := ⟨_, List.getElem?_eq_getElem (by rw [HM.out]; exact hkm)⟩
          have hq2 : (ws.map fun q => ((q.1 : Int), q.2))[k]? = some ((q.1 : Int), q.2) := by rw [List.getElem?_map, hq]; rfl
          obtain ⟨ib, ic, ie, ifr, rfl, hib, _⟩ := HII.out k _ hq2
          have hibw := lt_of_heap hib
          have t0 : Tch [Bn] w wr := ((TW.out.mono (by simp)).trans TN.out).trans (IR.out.tch.mono (by simp))
          have IM := Lib.hid (HII.out.touch t0 (by intro b hb; cases hb; simp; omega))
          have HQ := Lib.hid hq
          have HQ2 := Lib.hid hq2
          clear hq hq2 t0 hib
          go_upto_region 13 with (first | ((with_reducible apply wc_load_img imgT IM.out HQ2.out); exact rfl; go_frame) | ((with_reducible refine wc_alloc_img imgZero ?_); go_frame) | ((with_reducible apply wc_store_img_new imgT); (simp only [World.size_alloc]; exact rfl); exact rfl; go_frame))
          obtain ⟨w5, hw5⟩ : ∃ w5, (wr.alloc (.cells #[.int .i64 k] 3)).alloc (.cells (imageA q.1 q.2) 84) = w5 := ⟨_, rfl⟩
          rw [hw5]
          have t5 : Tch [] wr w5 := by rw [← hw5]; exact ((Tch.refl _ _).alloc _).alloc _
          have b51 : w5.heap[wr.heap.size]? = some (.cells #[.int .i64 k] 3) := by rw [← hw5, heap_alloc, if_neg (by simp), heap_alloc, if_pos rfl]
          have b52 : w5.heap[wr.heap.size + 1]? = some (.cells (imageA q.1 q.2) 84) := by rw [← hw5, heap_alloc, if_pos (by simp)]
          have hWrr := IR.out.tch.size
          have T5 := Lib.hid t5
          have B51 := Lib.hid b51
          have B52 := Lib.hid b52
          have O5 : Hid (OwnVals (w5.alloc (.cells #[fnImg Bf (wr.heap.size, wr.heap.size + 1)] 47)) w2.heap.size 47 u10 (fnList Bf Bw Bn :: bs.map (fnImg Bf))) := (IR.out.own.kept t5 (by simp)).kept ((Tch.refl [] _).alloc _) (by simp)
          have V5 : Hid (ValsAt (w5.alloc (.cells #[fnImg Bf (wr.heap.size, wr.heap.size + 1)] 47)) (some ⟨w5.heap.size, 0, none⟩) [fnImg Bf (wr.heap.size, wr.heap.size + 1)]) := valsAt_row (heap_alloc_new _ _)
          have hbl : bs.length = k := IR.out.len
          have hw6 := t5.size
          clear hw5 t5 b51 b52
          go_wp2_with ((with_reducible apply wc_append_vals fnsT (by decide) (m := [fnImg Bf (wr.heap.size, wr.heap.size + 1)]) O5.out (by simp; omega) (by simp; omega)); exact rfl; exact rfl; exact rfl; exact rfl; exact V5.out; (intro u hu; simp at hu; subst hu; rfl); intro v7 w7 ho7 ht7; go_frame; have HO7 := Lib.hid ho7; have HT7 := Lib.hid ht7; clear ho7 ht7)
          go_roundg (j - (k + 1))
          case measure => omega
          case rel => exact ⟨k + 1, _, ⟨by omega, by go_num, rfl⟩, IR.out.next HQ.out T5.out B51.out B52.out hWrr (by omega) ((Tch.refl [] _).alloc _) HO7.out HT7.out⟩
        · have hkm' : k = j := by omega
          subst hkm'
          have hbl : bs.length = k := IR.out.len
          have hibf : ∀ b, ia = some ⟨b, 0, none⟩ → True := fun _ _ => trivial
          have tr0 : Tch [Bn] w wr := ((TW.out.mono (by simp)).trans TN.out).trans (IR.out.tch.mono (by simp))
          have hBO2 := HO.out
          have hgl : g < w.heap.size := lt_of_heap H.out.hg
          have hdl : d < w.heap.size := lt_of_heap H.out.hD.hd
          have hLl : L < w.heap.size := lt_of_heap H.out.hD.hL
          have hMl : M < w.heap.size := H.out.hD.hM.lt
          have hVl : V < w.heap.size := H.out.hV.lt
          have hr := H.out.touch tr0 (by simp; omega) (by simp; omega) (by simp; omega) (by simp; omega) (by simp; omega)
          have c0 := hr.cell 0 rfl
          have t2r : Tch [Bn] W wr := TN.out.trans (IR.out.tch.mono (by simp))
          have elr := t2r.heap EL.out (by simp; omega)
          have clr : wr.cell? ⟨Bl, 0, none⟩ = some (.pointer (some ⟨g, 0, none⟩)) := by rw [cell_of_row wr Bl 0 _ _ _ elr]; rfl
          have HR := Lib.hid hr
          obtain ⟨row, hrow⟩ : ∃ row, wr.alloc (.cells #[fnFlush d, fnEnd Bf Bw, fnFlush d] 47) = row := ⟨_, rfl⟩
          have tA : Tch [] wr row := by rw [← hrow]; exact (Tch.refl _ _).alloc _
          have clA := cell_old tA clr
          have c0A := cell_old tA c0
          have hmf2 := hmf
          have O5 : Hid (∀ n, OwnVals (row.drewN n) w2.heap.size 47 u10 (fnList Bf Bw Bn :: bs.map (fnImg Bf))) := fun n => (IR.out.own.kept tA (by simp)).kept (tch_drewN row n) (by simp)
          have V5 : Hid (∀ n, ValsAt (row.drewN n) (some ⟨wr.heap.size, 0, none⟩) [fnFlush d, fnEnd Bf Bw, fnFlush d]) := fun n => (valsAt_row (by rw [← hrow]; exact heap_alloc_new _ _)).later (tch_drewN row n)
          have hw2r := IR.out.tch.size
          have hrs := tA.size
          have HROW := Lib.hid hrow
          have TA := Lib.hid tA
          clear hrow hr tA tr0 t2r elr
          go_upto_region 15 with fail
          refine wp_region_one 13 12 [u10, .pointer (some ⟨g, 0, none⟩), .pointer (some ⟨g, 0, none⟩), .pointer (some ⟨g, 0, none⟩), .pointer (some ⟨d, 0, none⟩), fnFlush d, fnEnd Bf Bw, .pointer (some ⟨g, 0, none⟩), .pointer (some ⟨g, 0, none⟩), .pointer (some ⟨g, 0, none⟩), .pointer (some ⟨d, 0, none⟩), fnFlush d, .slice (some ⟨wr.heap.size, 0, none⟩) 3 3] _ (fun b w' => ∃ n, w' = World.drewN (cond b row wr) n) (by kernel_rfl) (by kernel_rfl) rfl
            (by simp only [putAll, List.take_succ_cons, List.take_zero]; go_frame; exact rfl) (by decide) ⟨1, rfl⟩ ?_ ?_ ?_
          · intro b
            have clb : (cond b row wr).cell? ⟨Bl, 0, none⟩ = some (.pointer (some ⟨g, 0, none⟩)) := by cases b; exact clr; exact clA
            have c0b : (cond b row wr).cell? ⟨g, 0, none⟩ = some (.pointer (some ⟨d, 0, none⟩)) := by cases b; exact c0; exact c0A
            simp only [List.take_succ_cons, List.take_zero]
            refine stepsBut_cons (stepOk_value rfl fun W hW => ?_) (stepsBut_cons (stepOk_value rfl fun W hW => ?_) (stepsBut_cons (stepOk_value rfl fun W hW => ?_) (stepsBut_cons (stepOk_value rfl fun W hW => ?_) (stepsBut_cons (stepOk_value rfl fun W hW => ?_) (stepsBut_cons (stepOk_value rfl fun W hW => ?_) (stepsBut_cons (stepOk_value rfl fun W hW => ?_) (stepsBut_cons (stepOk_value rfl fun W hW => ?_) (stepsBut_cons (stepOk_value rfl fun W hW => ?_) (stepsBut_cons (stepOk_value rfl fun W hW => ?_) (stepsBut_cons (stepOk_value rfl fun W hW => ?_) (stepsBut_cons (stepOk_value rfl fun W hW => ?_) (stepsBut_here stepsOk_nil))))))))))))
            all_goals (obtain ⟨n, rfl⟩ := hW; go_simp)
          · intro o W ho hW
            simp only [List.getElem?_cons_zero, List.getElem?_cons_succ, Option.some.injEq] at ho
            subst ho
            obtain ⟨n, rfl⟩ := hW
            refine ⟨rfl, ?_⟩
            simp only [cond_false]
            go_simp
            exact ⟨n, by rw [← HROW.out]; rfl⟩
          intro wZ hZ
          obtain ⟨n, rfl⟩ := hZ
          simp only [cond_true, List.drop_succ_cons, List.drop_zero]
          have hBlX : Bl ∉ [Bp, d, L, M] := by simp; omega
          have hBfX : Bf ∉ [Bp, d, L, M] := by simp; omega
          have CALL : Hid (∀ v7 w7, OwnVals w7 w2.heap.size 47 v7 ((fnList Bf Bw Bn :: bs.map (fnImg Bf)) ++ [fnFlush d, fnEnd Bf Bw, fnFlush d]) → Tch u10.ownBlock.toList (row.drewN n) w7 →
              Calls Tryz.prog 64 #[v7] w7 fun e w' => e = .returned (.int .i64 (S.disk.acts (S.writeAs ws)).1) ∧ LogAt w' g d L M V { S with disk := (S.disk.acts (S.writeAs ws)).2 } ∧ Tch [d, L, M] w w') := by
            intro v7 w7 ho7 ht7
            obtain ⟨av, vcap, hv7, hvals, hblk⟩ := ho7.vals
            subst hv7
            have own5 := O5.out n
            have T27 : Tch [] w2 w7 := tch_own (IR.out.tch.trans (TA.out.trans (tch_drewN row n))) ht7 (fun k hk => (own5.lt k hk).1)
            have T07 : Tch [Bn] w w7 := ((TW.out.mono (by simp)).trans TN.out).trans (T27.mono (by simp))
            have TW7 : Tch [Bn] W w7 := TN.out.trans (T27.mono (by simp))
            have h7 := H.out.touch T07 (by simp; omega) (by simp; omega) (by simp; omega) (by simp; omega) (by simp; omega)
            have el7 := TW7.heap EL.out (by simp; omega)
            have ew7 := TW7.heap EW.out (by simp; omega)
            have ep7 := TW7.heap EP.out (by simp; omega)
            have ef7 := TW7.heap EF.out (by simp; omega)
            have en7 := T27.heap NR.out.box (by simp)
            have cl7 : w7.cell? ⟨Bl, 0, none⟩ = some (.pointer (some ⟨g, 0, none⟩)) := by rw [cell_of_row w7 Bl 0 _ _ _ el7]; rfl
            have cw7 : w7.cell? ⟨Bw, 0, none⟩ = some (.slice ia k icap) := by rw [cell_of_row w7 Bw 0 _ _ _ ew7]; rfl
            have cf7 : w7.cell? ⟨Bf, 0, none⟩ = some (fnPut Bl Bp) := by rw [cell_of_row w7 Bf 0 _ _ _ ef7]; rfl
            have cn7 : w7.cell? ⟨Bn, 0, none⟩ = some (.slice na k ncap) := by rw [cell_of_row w7 Bn 0 _ _ _ en7]; rfl
            have P7 : PutAt w7 g d L M V Bl Bp Bf pl S := ⟨h7, cl7, ep7, cf7, by simp; omega, by omega, OKK.out.gen, by have := OKK.out.records; have := OKK.out.used; have := OKK.out.log4; omega⟩
            have hk : ws.length = k := HM.out
            have N7 : NumsAt w7 na (ws.map (·.1)) := by
              intro i x hi
              obtain ⟨b, o, hb, hc⟩ := HVALS.out i (.int .u32 x) (by rw [List.getElem?_map, hi]; rfl)
              exact ⟨b, o, hb, cell_old T27 hc⟩
            have hold : ∀ b, W.heap.size ≤ b → b ∉ [Bp, d, L, M] := by intro b hb; have := WS.out; simp; omega
            have hNX : ∀ {w' : World}, Tch [Bp, d, L, M] w7 w' → NumsAt w' na (ws.map (·.1)) := fun ht i x hi => by
              obtain ⟨b, o, hb, hc⟩ := N7 i x hi
              exact ⟨b, o, hb, cell_touch ht hc (hold b (HBLK.out b o hb))⟩
            have hnm : (ws.map (·.1)).length = k := by rw [List.length_map, hk]
            have hfst : (((fnList Bf Bw Bn, LogS.putStep (LogS.frame2 (ws.map (·.1)))) :: (bs.zip ws.zipIdx).map (fun q => (fnImg Bf q.1, LogS.putStep (LogS.frame3 q.2.2 q.2.1.2)))) ++ [(fnFlush d, LogS.flush2), (fnEnd Bf Bw, LogS.putStep (LogS.frame4 ws.length)), (fnFlush d, LogS.flush2)]).map (·.1) = (fnList Bf Bw Bn :: bs.map (fnImg Bf)) ++ [fnFlush d, fnEnd Bf Bw, fnFlush d] := by
              rw [List.map_append, List.map_cons, List.map_map]
              congr 2
              have : (bs.zip ws.zipIdx).map Prod.fst = bs := List.map_fst_zip (by rw [hbl, List.length_zipIdx, hk]; exact Nat.le_refl _)
              conv => rhs; rw [← this]
              rw [List.map_map]
              rfl
            have hsnd : (((fnList Bf Bw Bn, LogS.putStep (LogS.frame2 (ws.map (·.1)))) :: (bs.zip ws.zipIdx).map (fun q => (fnImg Bf q.1, LogS.putStep (LogS.frame3 q.2.2 q.2.1.2)))) ++ [(fnFlush d, LogS.flush2), (fnEnd Bf Bw, LogS.putStep (LogS.frame4 ws.length)), (fnFlush d, LogS.flush2)]).map (·.2) = (LogS.recFrames ws).map LogS.putStep ++ [LogS.flush2, LogS.putStep (LogS.frame4 ws.length), LogS.flush2] := by
              have e1 : (LogS.imgFrames ws).map LogS.putStep = (bs.zip ws.zipIdx).map (fun q => LogS.putStep (LogS.frame3 q.2.2 q.2.1.2)) := by
                unfold LogS.imgFrames
                have : (bs.zip ws.zipIdx).map Prod.snd = ws.zipIdx := List.map_snd_zip (by rw [hbl, List.length_zipIdx, hk]; exact Nat.le_refl _)
                conv => lhs; rw [← this]
                rw [List.map_map, List.map_map]
                rfl
              unfold LogS.recFrames
              rw [List.map_append, List.map_cons, List.map_map]
              show _ = (LogS.putStep _ :: (LogS.imgFrames ws).map LogS.putStep) ++ _
              rw [e1]
              rfl
            have hlen : (((fnList Bf Bw Bn, LogS.putStep (LogS.frame2 (ws.map (·.1)))) :: (bs.zip ws.zipIdx).map (fun q => (fnImg Bf q.1, LogS.putStep (LogS.frame3 q.2.2 q.2.1.2)))) ++ [(fnFlush d, LogS.flush2), (fnEnd Bf Bw, LogS.putStep (LogS.frame4 ws.length)), (fnFlush d, LogS.flush2)]).length = ((fnList Bf Bw Bn :: bs.map (fnImg Bf)) ++ [fnFlush d, fnEnd Bf Bw, fnFlush d]).length := by
              rw [← hfst, List.length_map]
            rw [← hlen]
            rw [← hfst] at hvals
            refine (steps_end (R := fun s w' => PutR w7 w' g d L M V Bl Bp Bf S s) (R' := fun s w' => PutE w7 w' g d L M V Bp S s) ?_ (fun s w' h => ⟨h.at_.at_, h.same, h.tch⟩) (a := av) (cap := vcap) ?_ (s := (S, pl)) ⟨P7, ⟨S.disk, rfl⟩, Tch.refl _ _⟩ ?_).mono ?_
            · intro q hq
              rcases List.mem_append.1 hq with hq | hq
              · rcases List.mem_cons.1 hq with rfl | hq
                · refine put_stepE (fun _ _ => rfl) hBlX hBfX (fun S' pl' w' hp ht => ?_)
                  exact wr2_any hp (by rw [hnm]; exact cell_touch ht cw7 (by simp; omega)) (by rw [hnm]; exact cell_touch ht cn7 (by simp; omega)) (hNX ht) (by omega) (by
                    intro x hx
                    obtain ⟨y, hy, rfl⟩ := List.mem_map.1 hx
                    have := HWS.out y hy
                    omega)
                · obtain ⟨⟨b, x, i⟩, hq1, rfl⟩ := List.mem_map.1 hq
                  obtain ⟨i2, hi2⟩ := List.getElem?_of_mem hq1
                  obtain ⟨hi3, hi4⟩ := List.getElem?_zip_eq_some.1 hi2
                  simp only [List.getElem?_zipIdx, Option.map_eq_some_iff, Prod.mk.injEq] at hi4
                  obtain ⟨x', hx', rfl, rfl⟩ := hi4
                  obtain ⟨g1, g2, g3, g4⟩ := IR.out.box i2 b x' hi3 hx'
                  have f1 := ht7.heap ((tch_drewN row n).heap (TA.out.heap g1 (by simp)) (by simp)) (own5.ne ((tch_drewN row n).heap (TA.out.heap g1 (by simp)) (by simp)) (by decide))
                  have f2 := ht7.heap ((tch_drewN row n).heap (TA.out.heap g2 (by simp)) (by simp)) (own5.ne ((tch_drewN row n).heap (TA.out.heap g2 (by simp)) (by simp)) (by decide))
                  have hW2 : W.heap.size ≤ w2.heap.size := TN.out.size
                  have hi5 : i2 < k := by have := (List.getElem?_eq_some_iff.1 hi3).1; omega
                  refine put_stepE (fun _ _ => rfl) hBlX hBfX (fun S' pl' w' hp ht => ?_)
                  simp only [Nat.zero_add]
                  exact wr3_any hp (cell_touch ht (by rw [cell_of_row w7 b.1 0 _ _ _ f1]; rfl) (hold b.1 (by omega))) (ht.heap f2 (hold b.2 (by omega))) (by omega)
              · simp only [List.mem_cons, List.not_mem_nil, or_false] at hq
                rcases hq with rfl | rfl | rfl
                · exact flush_stepE hBlX hBfX
                · refine put_stepE (fun _ _ => rfl) hBlX hBfX (fun S' pl' w' hp ht => ?_)
                  exact wr4_any hp (by rw [hk]; exact cell_touch ht cw7 (by simp; omega)) (by omega)
                · exact flush_stepE hBlX hBfX
            · intro s w' hR i v hv
              obtain ⟨b, o, hb, hc⟩ := hvals i v hv
              exact ⟨b, o, hb, cell_touch hR.tch hc (hold b (by have := hblk b o hb; have := TN.out.size; omega))⟩
            · rw [hlen]; simp; omega
            · rintro e w' ⟨q1, q2⟩
              rw [hsnd] at q1 q2
              have hpl2 : (S, pl) = (S, 2 + S.used) := by rw [HPL.out]
              obtain ⟨r1, r2⟩ := LogS.runS_write S ws (LogS.recFrames ws) rfl
              rw [hpl2] at q1 q2
              rw [r1] at q1
              refine ⟨q1, by rw [← r2]; exact q2.at_, ?_⟩
              exact ((T07.mono (S' := [Bn, Bp, d, L, M]) (by simp)).trans (q2.tch.mono (by simp))).drop (by intro x hx; simp at hx ⊢; omega)
          apply wc_append_vals fnsT (by decide) (m := [fnFlush d, fnEnd Bf Bw, fnFlush d]) (O5.out n) (Nat.le_trans hw2r hrs) (by simp; omega)
          · exact rfl
          · exact rfl
          · exact rfl
          · exact rfl
          · exact V5.out n
          · (intro u hu; simp only [List.mem_cons, List.not_mem_nil, or_false] at hu; rcases hu with rfl | rfl | rfl <;> rfl)
          intro v7 w7 ho7 ht7; go_frame; have HO7 := Lib.hid ho7; have HT7 := Lib.hid ht7; clear ho7 ht7
          go_wp2_with (go_at_call 64; refine (CALL.out _ _ HO7.out HT7.out).mono ?_; rintro e w8 ⟨rfl, q1, q2⟩; have Q1 := Lib.hid q1; have Q2 := Lib.hid q2; clear q1 q2)
          go_ret
          exact ⟨rfl, Q1.out, Q2.out⟩
end Go.Proofs.YtkjgbhpnlgcinaaGreatDoor
