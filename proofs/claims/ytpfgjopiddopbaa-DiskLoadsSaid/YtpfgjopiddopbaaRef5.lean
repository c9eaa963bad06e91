/-
  The document's own disk in memory: New.
-/
import Derived.Test.YtpfgjopiddopbaaRef4
import Derived.Test.YtpfgjopiddopbaaRegion
namespace Go.Cib
open Go Go.RowKit
theorem exec_makeRows {P : Program} {T E : TypeId} {a : Act} {w : World} {dst : Option Tmp} {ty : TypeId} {pos : String} {af : Array Edge} {x y : Operand} {gd : Option (Nat × Bool)}
    (hT : P.underlying T = some (.slice E)) {i : TypeInfo} (hi : P.info? E = some i) {z : Value} (hz : i.zero = some z) (hs : z.cells.size = i.size) {n : Nat}
    (hb : i.bytes * n ≤ 281474976710656) (hn : n ≤ 9223372036854775807) (hx : a.eval x = .int .i64 n) (hy : a.eval y = .int .i64 n) :
    (execOp a.eval ⟨dst, .makeSlice T x y, ty, pos, af, gd⟩).run P w = .ok (.value (.slice (some ⟨w.heap.size, 0, none⟩) n n)) (w.alloc (.cells (rowsA (List.replicate n z.cells)) E)) := by
  have hm := madeRows z.cells n
  have hr := run_make (P := P) w T E i z hT hi hz .i64 .i64 n n (by omega) (by omega) (by rw [← Int.natCast_mul]; omega) (by omega)
  simp only [Int.toNat_natCast] at hr
  rw [← hs, show madeCells z.cells (n * z.cells.size) = _ from hm] at hr
  unfold execOp
  simp [hx, hy, hr]
theorem exec_makeArrs {P : Program} {T E : TypeId} {a : Act} {w : World} {dst : Option Tmp} {ty : TypeId} {pos : String} {af : Array Edge} {x y : Operand} {gd : Option (Nat × Bool)}
    {n : Nat} (hE : BytesT P E n) (hT : P.underlying T = some (.slice E)) {m : Nat} (hb : n * m ≤ 281474976710656) (hm : m ≤ 9223372036854775807) (hx : a.eval x = .int .i64 m) (hy : a.eval y = .int .i64 m) :
    (execOp a.eval ⟨dst, .makeSlice T x y, ty, pos, af, gd⟩).run P w = .ok (.value (.slice (some ⟨w.heap.size, 0, none⟩) m m)) (w.alloc (.cells (secsA (List.replicate m (Arr.zero : Arr n))) E)) := by
  obtain ⟨i, h1, h2, h3, h4⟩ := hE.info
  rw [exec_makeRows hT h1 h4 (by simp [Value.cells, h2]) (by rw [h3]; exact hb) hm hx hy, show (Value.agg (bytesA (List.replicate n 0))).cells = secA (Arr.zero : Arr n) from rfl, rows_zero]
theorem wanted_none {o : Oper} {y : Nat → Option Bool} (h : o.guard = none) : Region.wanted o y = true := by unfold Region.wanted; rw [h]
theorem flat_rep (v : Value) : ∀ k, (List.replicate k #[v]).flatMap Array.toList = List.replicate k v
  | 0 => rfl
  | k + 1 => by rw [List.replicate_succ, List.replicate_succ, List.flatMap_cons, flat_rep v k]; rfl
theorem stpR_ok {P : Program} {K : Value → World → Prop} {r : Result Next} {u : Value} {w : World} (h : r = .ok (.value u) w) (hK : K u w) : StpR P K r := by rw [h]; exact hK
theorem full_eval {a0 : Act} {l : List Oper} {n : Nat} {vs : Nat → Value} (hB : invB l.toArray n = true) {t j : Nat} (ht : t < a0.tmps.size) (hj : headOf l.toArray n t = some j) (hl : (listedN l.toArray.size n).getD j false = true) :
    (fullOf a0 l n vs).eval (.tmp t) = vs j := by
  simp only [invB, Bool.and_eq_true, Bool.or_eq_true, decide_eq_true_eq] at hB
  obtain ⟨⟨⟨⟨_, hn⟩, _⟩, hhead⟩, _⟩ := hB
  have h := (putAll_agreeF (a0 := a0) (vs := vs) hhead (by simpa using hn)).tmps t ht
  rw [hj] at h
  simp only [hl, if_true] at h
  show (fullOf a0 l n vs).tmps.getD t undef = vs j
  rw [Array.getD_eq_getD_getElem?, h]
  rfl
theorem full_old {a0 : Act} {l : List Oper} {n : Nat} {vs : Nat → Value} (hB : invB l.toArray n = true) {t : Nat} (ht : t < a0.tmps.size) (hj : headOf l.toArray n t = none) :
    (fullOf a0 l n vs).eval (.tmp t) = a0.tmps.getD t undef := by
  simp only [invB, Bool.and_eq_true, Bool.or_eq_true, decide_eq_true_eq] at hB
  obtain ⟨⟨⟨⟨_, hn⟩, _⟩, hhead⟩, _⟩ := hB
  have h := (putAll_agreeF (a0 := a0) (vs := vs) hhead (by simpa using hn)).tmps t ht
  rw [hj] at h
  show (fullOf a0 l n vs).tmps.getD t undef = _
  rw [Array.getD_eq_getD_getElem?, h]
  rfl
theorem exec_move {P : Program} {a : Act} {w : World} {dst : Option Tmp} {ty : TypeId} {pos : String} {af : Array Edge} {x : Operand} {gd : Option (Nat × Bool)} {v : Value} (hx : a.eval x = v) :
    (execOp a.eval ⟨dst, .move x, ty, pos, af, gd⟩).run P w = .ok (.value v) w := by
  subst hx
  unfold execOp
  simp
/-- A frame of a region's values, its slots said. -/
structure MadeI (kind : Nat → Obj) (n : Nat) (w0 : World) (listed : Array Bool) (vs : Nat → Value) (w : World) : Prop where
  tch : Tch [] w0 w
  even : ∀ j, j % 2 = 0 → listed.getD j false = true → vs j = .int .i64 n
  odd : ∀ j, j % 2 = 1 → listed.getD j false = true → ∃ b, vs j = .slice (some ⟨b, 0, none⟩) n n ∧ w0.heap.size ≤ b ∧ w.heap[b]? = some (kind j)
  ne : ∀ i j, i % 2 = 1 → j % 2 = 1 → i ≠ j → listed.getD i false = true → listed.getD j false = true → vs i ≠ vs j
theorem listed_ne {listed : Array Bool} {i j : Nat} (h : j ≠ i) : (listed.setIfInBounds i true).getD j false = listed.getD j false := by
  simp only [Array.getD_eq_getD_getElem?]
  rw [Array.getElem?_setIfInBounds_ne (Ne.symm h)]
theorem MadeI.move {kind : Nat → Obj} {n : Nat} {w0 w : World} {listed : Array Bool} {vs : Nat → Value} (h : MadeI kind n w0 listed vs w) (i : Nat) (hi : i % 2 = 0) : MadeI kind n w0 (listed.setIfInBounds i true) (updV vs i (.int .i64 n)) w := by
  refine ⟨h.tch, fun j hj hl => ?_, fun j hj hl => ?_, fun j k hj hk hne hlj hlk => ?_⟩
  · unfold updV
    by_cases e : j = i
    · rw [if_pos e]
    · rw [if_neg e]; exact h.even j hj (by rwa [listed_ne e] at hl)
  · have e : j ≠ i := by omega
    simp only [updV, if_neg e]
    exact h.odd j hj (by rwa [listed_ne e] at hl)
  · have e : j ≠ i := by omega
    have e' : k ≠ i := by omega
    simp only [updV, if_neg e, if_neg e']
    exact h.ne j k hj hk hne (by rwa [listed_ne e] at hlj) (by rwa [listed_ne e'] at hlk)
theorem MadeI.make {kind : Nat → Obj} {n : Nat} {w0 w : World} {listed : Array Bool} {vs : Nat → Value} (h : MadeI kind n w0 listed vs w) (i : Nat) (hi : i % 2 = 1) : MadeI kind n w0 (listed.setIfInBounds i true) (updV vs i (.slice (some ⟨w.heap.size, 0, none⟩) n n)) (w.alloc (kind i)) := by
  have old : ∀ j, j % 2 = 1 → listed.getD j false = true → vs j ≠ .slice (some ⟨w.heap.size, 0, none⟩) n n := by
    intro j hj hl e
    obtain ⟨b, h1, _, h3⟩ := h.odd j hj hl
    rw [h1] at e
    injection e with e
    injection e with e
    injection e with e
    exact ne_size h3 e
  refine ⟨h.tch.alloc _, fun j hj hl => ?_, fun j hj hl => ?_, fun j k hj hk hne hlj hlk => ?_⟩
  · have e : j ≠ i := by omega
    simp only [updV, if_neg e]
    exact h.even j hj (by rwa [listed_ne e] at hl)
  · by_cases e : j = i
    · subst e
      exact ⟨w.heap.size, by simp [updV], h.tch.size, by rw [heap_alloc, if_pos rfl]⟩
    · simp only [updV, if_neg e]
      obtain ⟨b, h1, h2, h3⟩ := h.odd j hj (by rwa [listed_ne e] at hl)
      exact ⟨b, h1, h2, by rw [heap_alloc, if_neg (ne_size h3)]; exact h3⟩
  · by_cases e : j = i
    · subst e
      have e' : k ≠ j := Ne.symm hne
      simp only [updV, if_neg e', if_true]
      exact Ne.symm (old k hk (by rwa [listed_ne e'] at hlk))
    · by_cases e' : k = i
      · subst e'
        simp only [updV, if_neg e, if_true]
        exact old j hj (by rwa [listed_ne e] at hlj)
      · simp only [updV, if_neg e, if_neg e']
        exact h.ne j k hj hk hne (by rwa [listed_ne e] at hlj) (by rwa [listed_ne e'] at hlk)
end Go.Cib
namespace Go.Proofs.Ytpfgjopiddopbaa
open Go.RowKit Go.Cib

theorem refNew_no (w : World) (n : Int) (hn : n < 1 ∨ 16384 < n) :
    Calls Try.prog 20 #[.int .i64 n] w fun e w' => e = .returned (.tuple #[.pointer none, .int .i64 2]) ∧ w = w' := by
  by_cases h1 : n < 1
  · go_enter Try.func20, Try.ntmps20
    go_wp2
    go_ret2
    exact ⟨rfl, rfl⟩
  · have h2 : 16384 < n := by omega
    go_enter Try.func20, Try.ntmps20
    go_wp2
    go_ret2
    exact ⟨rfl, rfl⟩

theorem uBools : Try.prog.underlying 50 = some (.slice 4) := by kernel_rfl
theorem infoBool : (Try.prog.info? 4).map (fun i => (i.zero, i.size, i.bytes)) = some (some (.bool false), 1, 1) := by kernel_rfl
def refKind (n : Nat) (j : Nat) : Obj := if j = 5 then .cells (rowsA (List.replicate n (Value.bool false).cells)) 4 else .cells (secsA (List.replicate n (Arr.zero : Sec))) 33

theorem refKind_sec (n j : Nat) (h : j ≠ 5) : refKind n j = .cells (secsA (List.replicate n (Arr.zero : Sec))) 33 := by unfold refKind; rw [if_neg h]
theorem refKind_bool (n : Nat) : refKind n 5 = .cells (rowsA (List.replicate n (Value.bool false).cells)) 4 := by unfold refKind; rw [if_pos rfl]
set_option maxHeartbeats 1000000 in
theorem refNew_any (w : World) (n : Nat) (h1 : 1 ≤ n) (h2 : n ≤ 16384) :
    Calls Try.prog 20 #[.int .i64 n] w fun e w' => ∃ r L W H, e = .returned (.tuple #[.pointer (some ⟨r, 0, none⟩), .int .i64 0]) ∧
      RefAt w' r L W H (DiskS.made n) ∧ Tch [] w w' ∧ w.heap.size ≤ r ∧ w.heap.size ≤ L ∧ w.heap.size ≤ W ∧ w.heap.size ≤ H := by
  obtain ⟨ib, hib, hib2⟩ := Option.map_eq_some_iff.1 infoBool
  simp only [Prod.mk.injEq] at hib2
  go_enter Try.func20, Try.ntmps20
  go_wp2_with fail
  refine wp_region_rel 6 (MadeI (refKind n) n w) (by kernel_rfl) (by kernel_rfl) (fun vs => ?_) ?_ ?_
  · exact ⟨(Tch.refl _ _).drew, fun j _ hl => (by rw [getD_replicate_false] at hl; cases hl), fun j _ hl => (by rw [getD_replicate_false] at hl; cases hl), fun i j _ _ _ hl => (by rw [getD_replicate_false] at hl; cases hl)⟩
  · intro i o hi ho listed vs wv hinv hsz hl hwait
    have hi6 : i = 0 ∨ i = 1 ∨ i = 2 ∨ i = 3 ∨ i = 4 ∨ i = 5 := by omega
    rcases hi6 with rfl | rfl | rfl | rfl | rfl | rfl
    all_goals (simp only [List.getElem?_cons_zero, List.getElem?_cons_succ, Option.some.injEq] at ho; subst ho; refine ⟨fun _ => ?_, fun hg => Bool.noConfusion ((wanted_none rfl).symm.trans hg)⟩)
    · refine stpR_ok (exec_move (v := .int .i64 n) ?_) (hinv.move 0 rfl)
      refine (full_old (t := 0) ?_ (by show _ < 18; omega) ?_).trans ?_
      · kernel_rfl
      · kernel_rfl
      · rfl
    · have e0 := hinv.even 0 rfl (hwait 0 (by kernel_rfl))
      generalize hfu : fullOf _ _ 6 vs = fu
      have hx : fu.eval (.tmp 10) = .int .i64 n := by
        rw [← hfu]
        refine (full_eval (t := 10) (j := 0) ?_ (by show _ < 18; omega) ?_ ?_).trans e0 <;> kernel_rfl
      clear hfu
      refine stpR_ok (exec_makeArrs secT uSecs (m := n) (by omega) (by omega) hx hx) ?_
      rw [← refKind_sec n 1 (by decide)]; exact hinv.make 1 rfl
    · refine stpR_ok (exec_move (v := .int .i64 n) ?_) (hinv.move 2 rfl)
      refine (full_old (t := 0) ?_ (by show _ < 18; omega) ?_).trans ?_
      · kernel_rfl
      · kernel_rfl
      · rfl
    · have e0 := hinv.even 2 rfl (hwait 2 (by kernel_rfl))
      generalize hfu : fullOf _ _ 6 vs = fu
      have hx : fu.eval (.tmp 12) = .int .i64 n := by
        rw [← hfu]
        refine (full_eval (t := 12) (j := 2) ?_ (by show _ < 18; omega) ?_ ?_).trans e0 <;> kernel_rfl
      clear hfu
      refine stpR_ok (exec_makeArrs secT uSecs (m := n) (by omega) (by omega) hx hx) ?_
      rw [← refKind_sec n 3 (by decide)]; exact hinv.make 3 rfl
    · refine stpR_ok (exec_move (v := .int .i64 n) ?_) (hinv.move 4 rfl)
      refine (full_old (t := 0) ?_ (by show _ < 18; omega) ?_).trans ?_
      · kernel_rfl
      · kernel_rfl
      · rfl
    · have e0 := hinv.even 4 rfl (hwait 4 (by kernel_rfl))
      generalize hfu : fullOf _ _ 6 vs = fu
      have hx : fu.eval (.tmp 14) = .int .i64 n := by
        rw [← hfu]
        refine (full_eval (t := 14) (j := 4) ?_ (by show _ < 18; omega) ?_ ?_).trans e0 <;> kernel_rfl
      clear hfu
      refine stpR_ok (exec_makeRows uBools hib hib2.1 (by rw [hib2.2.1]; rfl) (n := n) (by rw [hib2.2.2]; omega) (by omega) hx hx) ?_
      rw [← refKind_bool n]; exact hinv.make 5 rfl
  · intro vs wv hinv
    obtain ⟨b1, e1, l1, g1⟩ := hinv.odd 1 rfl (by kernel_rfl)
    obtain ⟨b3, e3, l3, g3⟩ := hinv.odd 3 rfl (by kernel_rfl)
    obtain ⟨b5, e5, l5, g5⟩ := hinv.odd 5 rfl (by kernel_rfl)
    have n13 : b1 ≠ b3 := by have := hinv.ne 1 3 rfl rfl (by omega) (by kernel_rfl) (by kernel_rfl); rw [e1, e3] at this; rintro rfl; exact this rfl
    have n15 : b1 ≠ b5 := by have := hinv.ne 1 5 rfl rfl (by omega) (by kernel_rfl) (by kernel_rfl); rw [e1, e5] at this; rintro rfl; exact this rfl
    have n35 : b3 ≠ b5 := by have := hinv.ne 3 5 rfl rfl (by omega) (by kernel_rfl) (by kernel_rfl); rw [e3, e5] at this; rintro rfl; exact this rfl
    simp only [fullOf, List.drop_succ_cons, List.drop_zero, List.take_succ_cons, List.take_zero, List.range_succ, List.range_zero, List.nil_append, List.cons_append, List.map_cons, List.map_nil, putAll, e1, e3, e5]
    have HI := Lib.hid hinv
    clear hinv e1 e3 e5
    go_frame
    go_wp2_with fail
    go_ret2
    have sz : ∀ {b : Nat} {o : Obj}, wv.heap[b]? = some o → b ≠ wv.heap.size := fun h => ne_size h
    have hlen : (DiskS.made n).lasts.length = n := by simp [DiskS.made]
    rw [refKind_sec n 1 (by decide)] at g1
    rw [refKind_sec n 3 (by decide)] at g3
    rw [refKind_bool n] at g5
    refine ⟨wv.heap.size, b1, b3, b5, rfl, ⟨?_, ?_, ⟨List.replicate n Arr.zero, ?_, ?_, ?_⟩, ?_, (sz g1).symm, (sz g3).symm, (sz g5).symm, n13, n15, n35, DiskS.Ok.made h1 h2⟩, HI.out.tch.alloc _, HI.out.tch.size, l1, l3, l5⟩
    · rw [heap_alloc, if_pos rfl, hlen]
      rfl
    · rw [heap_alloc, if_neg (sz g1)]
      exact g1
    · rw [heap_alloc, if_neg (sz g3)]
      exact g3
    · rw [hlen]; simp
    · intro i s hs; simp [DiskS.made] at hs
    · rw [heap_alloc, if_neg (sz g5), g5]
      congr 2
      unfold hasA rowsA
      rw [hlen]
      simp only [DiskS.made, Value.cells, List.map_const', List.length_range, Option.isSome_none]
      rw [flat_rep]
end Go.Proofs.Ytpfgjopiddopbaa
