/-
  Views: package view's View over a space in memory: may, Get, Put, Delete.
-/
import Derived.Test.YtcdgeeoajhbneaaGreatMemV
import Derived.Test.YtcdgeeoajhbneaaGreatRegion8
namespace Go.Proofs.YtcdgeeoajhbneaaGreat
open Go.RowKit Go.Cib
/-- Block b is the view of the space in block X under a prefix. -/
def ViewAt (w : World) (b X : Nat) (p : ByteArray) : Prop := w.heap[b]? = some (.cells #[.iface 51 (.pointer (some ⟨X, 0, none⟩)), .string p] 45)
theorem ViewAt.touch {w w' : World} {b X : Nat} {p : ByteArray} {S : List Nat} (h : ViewAt w b X p) (ht : Tch S w w') (hn : b ∉ S) : ViewAt w' b X p := ht.heap h hn
theorem ViewAt.c0 {w : World} {b X : Nat} {p : ByteArray} (h : ViewAt w b X p) : w.cell? ⟨b, 0, none⟩ = some (.iface 51 (.pointer (some ⟨X, 0, none⟩))) := (cell_of_row w b 0 _ _ _ h).trans (by simp)
theorem ViewAt.c1 {w : World} {b X : Nat} {p : ByteArray} (h : ViewAt w b X p) : w.cell? ⟨b, 1, none⟩ = some (.string p) := (cell_of_row w b 1 _ _ _ h).trans (by simp)

theorem vmay_any {w : World} {b X : Nat} {p : ByteArray} (h : ViewAt w b X p) (hp : p.size ≤ 100) (key : ByteArray) :
    Calls Tryz.prog 12 #[.pointer (some ⟨b, 0, none⟩), .string key] w fun e w' => e = .returned (.int .i64 (if vkey p key = true then 0 else 2)) ∧ w = w' := by
  have c1 := h.c1
  clear h
  by_cases h0 : key = ByteArray.empty
  · subst h0
    have hv : vkey p ByteArray.empty = false := by unfold vkey; rw [decide_eq_false]; rintro ⟨h1, _⟩; cases h1
    rw [hv]
    have hk : (ByteArray.empty).toList.isEmpty = true := by rw [ByteArray.toList_eq]; rfl
    go_enter Tryz.func12, Tryz.ntmps12
    go_wp2_with fail
    go_ret
    exact ⟨rfl, rfl⟩
  · have hs : 1 ≤ key.size := by
      rcases Nat.eq_zero_or_pos key.size with e | e
      · exact absurd (tl_inj (a := key) (b := ByteArray.empty) (List.eq_nil_of_length_eq_zero e)) h0
      · exact e
    have hk : key.toList.isEmpty = false := by
      rw [ByteArray.toList_eq, List.isEmpty_eq_false_iff]
      intro e
      have := congrArg List.length e
      rw [Array.length_toList] at this
      exact absurd (show key.size = 0 from this) (by omega)
    by_cases h1 : p.size + key.size ≤ 198
    · have hv : vkey p key = true := by unfold vkey; exact decide_eq_true ⟨hs, h1⟩
      rw [hv]
      have h2 : ¬ (198 - (p.size : Int) < key.size) := by omega
      go_enter Tryz.func12, Tryz.ntmps12
      go_wp2_with fail
      go_ret
      exact ⟨rfl, rfl⟩
    · have hv : vkey p key = false := by unfold vkey; exact decide_eq_false fun h => h1 h.2
      rw [hv]
      have h2 : 198 - (p.size : Int) < key.size := by omega
      go_enter Tryz.func12, Tryz.ntmps12
      go_wp2_with fail
      go_ret
      exact ⟨rfl, rfl⟩

set_option maxRecDepth 100000 in
theorem meth_get (n : Nat) (hn : n = Tryz.prog.types.size + Made.depth) (v : Value) (w : World) : (method n 51 v "Get").run Tryz.prog w = .ok (174, v) w := by subst hn; kernel_rfl
set_option maxRecDepth 100000 in
theorem meth_put (n : Nat) (hn : n = Tryz.prog.types.size + Made.depth) (v : Value) (w : World) : (method n 51 v "Put").run Tryz.prog w = .ok (176, v) w := by subst hn; kernel_rfl
set_option maxRecDepth 100000 in
theorem meth_del (n : Nat) (hn : n = Tryz.prog.types.size + Made.depth) (v : Value) (w : World) : (method n 51 v "Delete").run Tryz.prog w = .ok (173, v) w := by subst hn; kernel_rfl
set_option maxRecDepth 100000 in
theorem meth_list (n : Nat) (hn : n = Tryz.prog.types.size + Made.depth) (v : Value) (w : World) : (method n 51 v "List").run Tryz.prog w = .ok (175, v) w := by subst hn; kernel_rfl
set_option maxRecDepth 100000 in
theorem cf_get (args : Array Value) (w : World) : (callFunc 174 args).run Tryz.prog w = .ok (.enter 174 args) w := by kernel_rfl
set_option maxRecDepth 100000 in
theorem cf_put (args : Array Value) (w : World) : (callFunc 176 args).run Tryz.prog w = .ok (.enter 176 args) w := by kernel_rfl
set_option maxRecDepth 100000 in
theorem cf_del (args : Array Value) (w : World) : (callFunc 173 args).run Tryz.prog w = .ok (.enter 173 args) w := by kernel_rfl
set_option maxRecDepth 100000 in
theorem cf_list (args : Array Value) (w : World) : (callFunc 175 args).run Tryz.prog w = .ok (.enter 175 args) w := by kernel_rfl

set_option maxRecDepth 20000 in
set_option maxHeartbeats 1000000 in
theorem vget_any {w : World} {b X M : Nat} {p : ByteArray} {B : List Kv} (h : ViewAt w b X p) (hp : p.size ≤ 100) (hm : MemAt w X M B) (key : ByteArray) :
    Calls Tryz.prog 6 #[.pointer (some ⟨b, 0, none⟩), .string key] w fun e w' => e = .returned (.tuple #[.string (vget B p key).1, .bool (vget B p key).2.1, .int .i64 (vget B p key).2.2]) ∧ Tch [] w w' := by
  have CM := Lib.hid (vmay_any h hp key)
  have c0 := h.c0
  have c1 := h.c1
  have H := Lib.hid hm
  clear h hm
  unfold vget
  cases hv : vkey p key with
  | false =>
    rw [hv] at CM
    go_enter Tryz.func6, Tryz.ntmps6
    go_wp2_with (go_at_call 12; refine CM.out.mono ?_; rintro e w' ⟨rfl, rfl⟩)
    go_ret3
    exact ⟨rfl, Tch.refl _ _⟩
  | true =>
    rw [hv] at CM
    rw [if_pos rfl]
    have hks : p.size + key.size ≤ 198 := by unfold vkey at hv; simp at hv; exact hv.2
    have CG : Hid (∀ W, Tch [] w W → Calls Tryz.prog 174 #[.pointer (some ⟨X, 0, none⟩), .string (p ++ key)] W fun e w' => e = .returned (.tuple #[.string ((get B (p ++ key)).getD ByteArray.empty), .bool (get B (p ++ key)).isSome, .int .i64 0]) ∧ Tch [] W w') := fun W ht => mget_any (H.out.old ht) _
    show Calls _ _ _ _ fun e w' => e = .returned (.tuple #[.string ((get B (p ++ key)).getD ByteArray.empty), .bool (get B (p ++ key)).isSome, .int .i64 0]) ∧ Tch [] w w'
    generalize (get B (p ++ key)).getD ByteArray.empty = s at *
    generalize (get B (p ++ key)).isSome = bb at *
    go_enter Tryz.func6, Tryz.ntmps6
    go_wp2_with (go_at_call 12; refine CM.out.mono ?_; rintro e w' ⟨rfl, rfl⟩)
    (refine rest_gate 12 (fun w' => ∃ n, w' = World.drewN w n) (fun u w' => u = .tuple #[.string s, .bool bb, .int .i64 0] ∧ Tch [] w w') (by kernel_rfl) (by kernel_rfl) ⟨1, rfl⟩ ?_; simp only [List.take_succ_cons, List.take_zero]; (repeat (first | fail | go_big_quiet_step (fail))); refine wpQuiet_nil ⟨_, rfl, rfl, ?_, ?_⟩)
    · rintro w' ⟨nq, rfl⟩
      go_simp
      rw [meth_get _ (by kernel_rfl)]
      simp only [Result.andThen_ok, cf_get, StpR_enter]
      refine (CG.out _ (tch_drewN w nq)).mono ?_
      rintro e w2 ⟨rfl, t2⟩
      exact ⟨_, rfl, rfl, (tch_drewN w nq).trans t2⟩
    · rintro u w' ⟨rfl, ht⟩
      have HT := Lib.hid ht
      clear ht
      go_frame
      (refine rest_quiet (m := 16) (fun w2 => ∃ n, w2 = World.drewN w' n) (by decide) (by kernel_rfl) ⟨0, rfl⟩ ?_; simp only [List.take_succ_cons, List.take_zero, List.drop_succ_cons, List.drop_zero]; (repeat (first | fail | go_big_quiet_step (fail))); refine wpQuiet_nil ?_; intro _ hw'; obtain ⟨nq, hw''⟩ := hw'; subst hw''; refine rest_end (by kernel_rfl) ?_; simp only [List.drop_succ_cons, List.drop_zero])
      go_wp2_with fail
      go_ret3
      exact ⟨rfl, HT.out.trans (tch_drewN _ _)⟩

theorem size_pk {p key : ByteArray} (hv : vkey p key = true) : (p ++ key).size ≤ 198 ∧ 1 ≤ (p ++ key).size := by
  unfold vkey at hv
  simp only [decide_eq_true_eq] at hv
  have e : (p ++ key).size = p.size + key.size := by
    show (tl (p ++ key)).length = _
    rw [tl_append, List.length_append]; rfl
  omega
set_option maxRecDepth 20000 in
set_option maxHeartbeats 1000000 in
theorem vput_any {w : World} {b X M : Nat} {p : ByteArray} {B : List Kv} (h : ViewAt w b X p) (hp : p.size ≤ 100) (hm : MemAt w X M B) (hl : B.length < 100000) (key v : ByteArray) (hvs : v.size ≤ 9223372036854775807) :
    Calls Tryz.prog 10 #[.pointer (some ⟨b, 0, none⟩), .string key, .string v] w fun e w' => e = .returned (.int .i64 (vput B p key v).1) ∧ MemAt w' X M (vput B p key v).2 ∧ Tch [M] w w' := by
  have CM := Lib.hid (vmay_any h hp key)
  have c0 := h.c0
  have c1 := h.c1
  have H := Lib.hid hm
  have HL := Lib.hid hl
  clear h hm hl
  unfold vput
  cases hv : vkey p key with
  | false =>
    rw [hv] at CM
    rw [if_neg (by simp)]
    go_enter Tryz.func10, Tryz.ntmps10
    go_wp2_with (go_at_call 12; refine CM.out.mono ?_; rintro e w' ⟨rfl, rfl⟩)
    go_ret
    exact ⟨rfl, H.out, Tch.refl _ _⟩
  | true =>
    rw [hv] at CM
    rw [if_pos rfl]
    have hks : p.size + key.size ≤ 198 := by unfold vkey at hv; simp at hv; exact hv.2
    by_cases hbig : 3968 < v.size
    · rw [if_pos hbig]
      go_enter Tryz.func10, Tryz.ntmps10
      go_wp2_with (go_at_call 12; refine CM.out.mono ?_; rintro e w' ⟨rfl, rfl⟩)
      go_ret
      exact ⟨rfl, H.out, Tch.refl _ _⟩
    · rw [if_neg hbig]
      have hsz := Lib.hid (size_pk hv)
      go_enter Tryz.func10, Tryz.ntmps10
      go_wp2_with (go_at_call 12; refine CM.out.mono ?_; rintro e w' ⟨rfl, rfl⟩)
      (refine rest_gate 13 (fun w' => ∃ n, w' = World.drewN w n) (fun u w' => u = .int .i64 0 ∧ MemAt w' X M (put B (p ++ key) v) ∧ Tch [M] w w') (by kernel_rfl) (by kernel_rfl) ⟨1, rfl⟩ ?_; simp only [List.take_succ_cons, List.take_zero]; (repeat (first | fail | go_big_quiet_step (fail))); refine wpQuiet_nil ⟨_, rfl, rfl, ?_, ?_⟩)
      · rintro w' ⟨nq, rfl⟩
        go_simp
        rw [meth_put _ (by kernel_rfl)]
        simp only [Result.andThen_ok, cf_put, StpR_enter]
        refine (mput_any (H.out.old (tch_drewN w nq)) HL.out _ _ hsz.out.1).mono ?_
        rintro e w2 ⟨rfl, h2, t2⟩
        exact ⟨_, rfl, rfl, h2, ((tch_drewN w nq).mono (by simp)).trans t2⟩
      · rintro u w' ⟨rfl, h2, ht⟩
        have H2 := Lib.hid h2
        have HT := Lib.hid ht
        clear ht h2
        go_frame
        refine rest_end (by kernel_rfl) ?_
        simp only [List.drop_succ_cons, List.drop_zero]
        go_wp2_with fail
        go_ret
        exact ⟨rfl, H2.out, HT.out⟩
set_option maxRecDepth 20000 in
set_option maxHeartbeats 1000000 in
theorem vdel_any {w : World} {b X M : Nat} {p : ByteArray} {B : List Kv} (h : ViewAt w b X p) (hp : p.size ≤ 100) (hm : MemAt w X M B) (key : ByteArray) :
    Calls Tryz.prog 7 #[.pointer (some ⟨b, 0, none⟩), .string key] w fun e w' => e = .returned (.tuple #[.bool (vdel B p key).1, .int .i64 (vdel B p key).2.1]) ∧ MemAt w' X M (vdel B p key).2.2 ∧ Tch [M] w w' := by
  have CM := Lib.hid (vmay_any h hp key)
  have c0 := h.c0
  have c1 := h.c1
  have H := Lib.hid hm
  clear h hm
  unfold vdel
  cases hv : vkey p key with
  | false =>
    rw [hv] at CM
    rw [if_neg (by simp)]
    go_enter Tryz.func7, Tryz.ntmps7
    go_wp2_with (go_at_call 12; refine CM.out.mono ?_; rintro e w' ⟨rfl, rfl⟩)
    go_ret2
    exact ⟨rfl, H.out, Tch.refl _ _⟩
  | true =>
    rw [hv] at CM
    rw [if_pos rfl]
    have hks : p.size + key.size ≤ 198 := by unfold vkey at hv; simp at hv; exact hv.2
    have CG : Hid (∀ W, Tch [] w W → Calls Tryz.prog 173 #[.pointer (some ⟨X, 0, none⟩), .string (p ++ key)] W fun e w' => e = .returned (.tuple #[.bool (is B (p ++ key)), .int .i64 0]) ∧ MemAt w' X M (del B (p ++ key)) ∧ Tch [M] W w') := fun W ht => mdel_any (H.out.old ht) _
    show Calls _ _ _ _ fun e w' => e = .returned (.tuple #[.bool (is B (p ++ key)), .int .i64 0]) ∧ MemAt w' X M (del B (p ++ key)) ∧ Tch [M] w w'
    generalize is B (p ++ key) = bb at *
    go_enter Tryz.func7, Tryz.ntmps7
    go_wp2_with (go_at_call 12; refine CM.out.mono ?_; rintro e w' ⟨rfl, rfl⟩)
    (refine rest_gate 12 (fun w' => ∃ n, w' = World.drewN w n) (fun u w' => u = .tuple #[.bool bb, .int .i64 0] ∧ MemAt w' X M (del B (p ++ key)) ∧ Tch [M] w w') (by kernel_rfl) (by kernel_rfl) ⟨1, rfl⟩ ?_; simp only [List.take_succ_cons, List.take_zero]; (repeat (first | fail | go_big_quiet_step (fail))); refine wpQuiet_nil ⟨_, rfl, rfl, ?_, ?_⟩)
    · rintro w' ⟨nq, rfl⟩
      go_simp
      rw [meth_del _ (by kernel_rfl)]
      simp only [Result.andThen_ok, cf_del, StpR_enter]
      refine (CG.out _ (tch_drewN w nq)).mono ?_
      rintro e w2 ⟨rfl, h2, t2⟩
      exact ⟨_, rfl, rfl, h2, ((tch_drewN w nq).mono (by simp)).trans t2⟩
    · rintro u w' ⟨rfl, h2, ht⟩
      have H2 := Lib.hid h2
      have HT := Lib.hid ht
      clear ht h2
      go_frame
      (refine rest_quiet (m := 15) (fun w2 => ∃ n, w2 = World.drewN w' n) (by decide) (by kernel_rfl) ⟨0, rfl⟩ ?_; simp only [List.take_succ_cons, List.take_zero, List.drop_succ_cons, List.drop_zero]; (repeat (first | fail | go_big_quiet_step (fail))); refine wpQuiet_nil ?_; intro _ hw'; obtain ⟨nq, hw''⟩ := hw'; subst hw''; refine rest_end (by kernel_rfl) ?_; simp only [List.drop_succ_cons, List.drop_zero])
      go_wp2_with fail
      go_ret2
      exact ⟨rfl, H2.out.old (tch_drewN _ _), HT.out.trans ((tch_drewN _ _).mono (by simp))⟩
end Go.Proofs.YtcdgeeoajhbneaaGreat
