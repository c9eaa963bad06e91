/-
  Package page's Free.
-/
import Derived.Test.YtkjgbhpnlgcinaaGreatDoorMP2
import Derived.Test.YtkjgbhpnlgcinaaGreatDoorMW2
import Derived.Test.YtkjgbhpnlgcinaaGreatDoorMW4
namespace Go.Proofs.YtkjgbhpnlgcinaaGreatDoor
open Go.RowKit Go.Cib
set_option maxRecDepth 20000 in
set_option maxHeartbeats 2000000 in
theorem pfree_any {w : World} {p g d L M V Mo : Nat} {P : PgS} (h : PgAt w p g d L M V Mo P) (ok : P.Ok) : Calls Tryz.prog 10 #[.pointer (some ⟨p, 0, none⟩)] w fun e w' => e = .returned (.int .i64 (P.now.free P.pages)) ∧ Tch [] w w' := by
  have c1 := h.c1
  have p4 := ok.p4
  have HP := Lib.hid h.hp
  have HW := Lib.hid (pgA_now g P.pages P.now P.last Mo).words
  obtain ⟨F, hF0, hFs, hFe, hFl⟩ := StS.count P.now P.pages ok.now (by omega)
  have HF0 := Lib.hid hF0
  have HFS := Lib.hid hFs
  have HFE := Lib.hid hFe
  have HFL := Lib.hid hFl
  clear hF0 hFs hFe hFl
  have HSZ : Hid (3 + 256 ≤ (pgA g P.pages P.now P.last Mo).size) := by show _ ≤ _; rw [size_pgA]; omega
  clear h ok
  generalize P.now = s at *
  generalize P.pages = pages at *
  generalize P.last = s2 at *
  have HGET := Lib.hid (fun (j : Nat) (hj : j < 256) => wordsA_get s hj)
  generalize wordsA s = WA at *
  go_enter Tryz.func10, Tryz.ntmps10
  go_wp2_with ((with_reducible refine wc_load_part wordsT.agg HP.out HSZ.out HW.out ?_ ?_); exact rfl; go_frame)
  go_loopg [3, 5, 17] 256 (fun q v _ i wr => ∃ j : Nat, OnAt 256 i q j ∧ v = .int .i64 ((pages : Int) - (F j : Nat)) ∧ w = wr)
  case atStart => exact ⟨0, ⟨Nat.zero_le _, rfl, rfl⟩, by rw [HF0.out]; simp, rfl⟩
  case round =>
    obtain ⟨j, ⟨hj, rfl, rfl⟩, rfl, rfl⟩ := hrel
    have HJ := Lib.hid hj
    clear hj
    by_cases hj2 : (j : Int) < 256
    · have HJ2 : Hid (j < 256) := by show _ < _; omega
      have hg := HGET.out j HJ2.out
      have CO := Lib.hid (ones64_any (s.word j) (s.word_lt j) w)
      rw [StS.word_cnt] at CO
      have hca := HFS.out j
      have hle1 := HFL.out j
      have hle2 := cnt_le (fun k => s.taken (64 * j + k)) 64
      obtain ⟨x, hx⟩ : ∃ x, s.word j = x := ⟨_, rfl⟩
      obtain ⟨b, hb⟩ : ∃ b, cnt (fun k => s.taken (64 * j + k)) 64 = b := ⟨_, rfl⟩
      rw [hx] at hg CO
      rw [hb] at CO hca hle2
      have HG := Lib.hid hg
      have HCA := Lib.hid hca
      clear hg hca hb hx
      go_wp2_with (first | ((with_reducible refine wc_index_num wordsT HJ2.out HG.out ?_ ?_ ?_); exact rfl; exact rfl; go_frame) | (go_at_call 49; refine CO.out.mono ?_; rintro e w' ⟨rfl, rfl⟩))
      go_roundg (256 - (j + 1))
      case measure => (have := HJ2.out; omega)
      case rel =>
        refine ⟨j + 1, ⟨by (have := HJ2.out; omega), by go_num, rfl⟩, ?_, rfl⟩
        refine congrArg (Value.int .i64) ?_
        have h9 : F (j + 1) = F j + b := HCA.out
        clear hle1 hle2 p4 hj2
        rw [h9]
        omega
    · have hj3 : j = 256 := by have := HJ.out; omega
      subst hj3
      have hf := HFE.out
      have e : ((pages : Int) - (F 256 : Nat)) = (s.free pages : Nat) := by omega
      rw [e]
      obtain ⟨fr, hfr⟩ : ∃ fr, s.free pages = fr := ⟨_, rfl⟩
      rw [hfr]
      have HFR := Lib.hid hfr
      clear e hf hfr
      go_wp2_with fail
      go_ret
      refine ⟨?_, Tch.refl _ _⟩
      rw [HFR.out]
      rfl
end Go.Proofs.YtkjgbhpnlgcinaaGreatDoor
/-
  Pages in memory: what turns them: package page's Get, Put, Take, Give, SetRoot, Rollback.
-/
namespace Go.Cib
open Go Go.RowKit
theorem overV_upd (o : Int → Option Page) (n : Int) (x : Page) : upd (fun i => (o i).map fun x => Value.agg (secA x)) n (.agg (secA x)) = fun i => ((fun j => if j = n then some x else o j) i).map fun x => Value.agg (secA x) := by
  funext i
  unfold upd
  by_cases h : i = n
  · rw [if_pos h]; simp [h]
  · rw [if_neg h]; simp [h]
theorem overV_rem (o : Int → Option Page) (n : Int) : rem (fun i => (o i).map fun x => Value.agg (secA x)) n = fun i => ((fun j => if j = n then none else o j) i).map fun x => Value.agg (secA x) := by
  funext i
  unfold rem
  by_cases h : i = n
  · rw [if_pos h]; simp [h]
  · rw [if_neg h]; simp [h]
theorem overV_none : (fun i => (((fun _ => none : Int → Option Page)) i).map fun x => Value.agg (secA x)) = fun _ => none := rfl
end Go.Cib
namespace Go.Proofs.YtkjgbhpnlgcinaaGreatDoor
open Go.RowKit Go.Cib
theorem type_ne {w : World} {k : Nat} {c c' : Array Value} {e e' : TypeId} {fr fr' : Nat × Nat} (h1 : w.heap[k]? = some (.cells c e fr)) (h2 : w.heap[k]? = some (.cells c' e' fr')) : e = e' := by
  rw [h1] at h2; cases h2; rfl
theorem map_ne {w : World} {k : Nat} {c : Array Value} {e : TypeId} {fr : Nat × Nat} {es : Array MapEntry} {clk : Nat} (h1 : w.heap[k]? = some (.map es clk)) (h2 : w.heap[k]? = some (.cells c e fr)) : False := by
  rw [h1] at h2; cases h2
/-- The map was written. -/
theorem PgAt.over {w w' : World} {p g d L M V Mo : Nat} {P : PgS} (h : PgAt w p g d L M V Mo P) {o : Int → Option Page} (hm : MapAt kInt w' Mo (fun i => (o i).map fun x => Value.agg (secA x))) (ht : Tch [Mo] w w') : PgAt w' p g d L M V Mo { P with over := o } := by
  obtain ⟨es, clk, hM, _⟩ := h.hM
  have nc : ∀ {k : Nat} {c : Array Value} {e : TypeId} {fr : Nat × Nat}, w.heap[k]? = some (.cells c e fr) → k ∉ [Mo] := fun {k c e fr} hk hm => by
    rw [List.mem_singleton.1 hm] at hk; exact map_ne hM hk
  have nz := h.nz
  refine ⟨ht.heap h.hp (nc h.hp), h.log.touch ht (nc h.log.hg) (nc h.log.hD.hd) (nc h.log.hD.hL) ?_ ?_, hm, h.tab.touch ht ?_, h.oM, h.oV, h.nz⟩
  · intro hm; exact h.oM (List.mem_singleton.1 hm).symm
  · intro hm; exact h.oV (List.mem_singleton.1 hm).symm
  · intro hm
    rw [List.mem_singleton.1 hm] at nz
    simp at nz
theorem PgAt.ncell {w : World} {p g d L M V Mo : Nat} {P : PgS} (h : PgAt w p g d L M V Mo P) {k : Nat} {c : Array Value} {fr : Nat × Nat} (hk : w.heap[k]? = some (.cells c 54 fr)) : k ∉ pgB p g d L M V Mo := by
  intro hm
  simp only [List.mem_cons, List.not_mem_nil, or_false] at hm
  obtain ⟨es, clk, hM, _⟩ := h.hM
  obtain ⟨e2, c2, hV, _⟩ := h.log.hV
  obtain ⟨e3, c3, hM3, _⟩ := h.log.hD.hM
  rcases hm with rfl | rfl | rfl | rfl | rfl | rfl | rfl
  · exact absurd (type_ne h.hp hk) (by decide)
  · exact absurd (type_ne h.log.hg hk) (by decide)
  · exact absurd (type_ne h.log.hD.hd hk) (by decide)
  · exact absurd (type_ne h.log.hD.hL hk) (by decide)
  · exact map_ne hM3 hk
  · exact map_ne hV hk
  · exact map_ne hM hk
theorem PgAt.np {w : World} {p g d L M V Mo : Nat} {P : PgS} (h : PgAt w p g d L M V Mo P) : ∀ k ∈ [g, d, L, M, V, Mo, 0], k ≠ p := by
  intro k hm e
  subst e
  simp only [List.mem_cons, List.not_mem_nil, or_false] at hm
  obtain ⟨es, clk, hM, _⟩ := h.hM
  obtain ⟨e2, c2, hV, _⟩ := h.log.hV
  obtain ⟨e3, c3, hM3, _⟩ := h.log.hD.hM
  have hp := h.hp
  rcases hm with rfl | rfl | rfl | rfl | rfl | rfl | rfl
  · exact absurd (type_ne h.log.hg hp) (by decide)
  · exact absurd (type_ne h.log.hD.hd hp) (by decide)
  · exact absurd (type_ne h.log.hD.hL hp) (by decide)
  · exact map_ne hM3 hp
  · exact map_ne hV hp
  · exact map_ne hM hp
  · exact h.nz (by simp)
/-- The states were written. -/
theorem PgAt.states {w w' : World} {p g d L M V Mo : Nat} {P : PgS} (h : PgAt w p g d L M V Mo P) {s1 s2 : StS} (hp : w'.heap[p]? = some (.cells (pgA g P.pages s1 s2 Mo) 104)) (ht : Tch [p] w w') : PgAt w' p g d L M V Mo { P with now := s1, last := s2 } := by
  have np := h.np
  refine ⟨hp, h.log.touch ht ?_ ?_ ?_ ?_ ?_, h.hM.touch ht ?_, h.tab.touch ht ?_, h.oM, h.oV, h.nz⟩ <;> (intro hm; exact np _ (by simp) (List.mem_singleton.1 hm))
/-- The log was turned. -/
theorem PgAt.logged {w w' : World} {p g d L M V Mo : Nat} {P : PgS} (h : PgAt w p g d L M V Mo P) {S : LogS} {X : List Nat} (hl : LogAt w' g d L M V S) (ht : Tch X w w') (h1 : p ∉ X) (h2 : Mo ∉ X) (h3 : 0 ∉ X) : PgAt w' p g d L M V Mo { P with log := S } :=
  ⟨ht.heap h.hp h1, hl, h.hM.touch ht h2, h.tab.touch ht h3, h.oM, h.oV, h.nz⟩
theorem PgAt.nMo {w : World} {p g d L M V Mo : Nat} {P : PgS} (h : PgAt w p g d L M V Mo P) : Mo ∉ [g, d, L, M, V] ∧ p ∉ [g, d, L, M, V] ∧ 0 ∉ [g, d, L, M, V] := by
  obtain ⟨es, clk, hM, _⟩ := h.hM
  have nc : ∀ {k : Nat} {c : Array Value} {e : TypeId} {fr : Nat × Nat}, w.heap[k]? = some (.cells c e fr) → k ≠ Mo := fun {k c e fr} hk hm => by
    rw [hm] at hk; exact map_ne hM hk
  have h1 := nc h.log.hg
  have h2 := nc h.log.hD.hd
  have h3 := nc h.log.hD.hL
  have h4 := h.oM
  have h5 := h.oV
  have np := h.np
  have nz := h.nz
  simp only [List.mem_cons, List.not_mem_nil, or_false, not_or] at nz
  refine ⟨?_, ?_, ?_⟩
  · simp only [List.mem_cons, List.not_mem_nil, or_false, not_or]
    exact ⟨Ne.symm h1, Ne.symm h2, Ne.symm h3, h4, h5⟩
  · intro hm
    simp only [List.mem_cons, List.not_mem_nil, or_false] at hm
    rcases hm with e | e | e | e | e <;> exact np _ (by simp) e.symm
  · simp only [List.mem_cons, List.not_mem_nil, or_false, not_or]
    exact ⟨nz.2.1, nz.2.2.1, nz.2.2.2.1, nz.2.2.2.2.1, nz.2.2.2.2.2.1⟩
theorem PgS.Ok.log2 {P : PgS} (h : P.Ok) : P.log.Ok := h.log
set_option maxRecDepth 20000 in
set_option maxHeartbeats 1000000 in
theorem pget_any {w : World} {p g d L M V Mo : Nat} {P : PgS} (h : PgAt w p g d L M V Mo P) (ok : P.Ok) (n : Int) :
    Calls Tryz.prog 23 #[.pointer (some ⟨p, 0, none⟩), .int .i64 n] w fun e w' => e = .returned (.tuple #[.agg (secA (P.get n).1.1), .int .i64 (P.get n).1.2]) ∧ PgAt w' p g d L M V Mo (P.get n).2 ∧ Tch [g] w w' := by
  obtain ⟨W, hW⟩ : ∃ W, w.alloc (.cells (secA (Arr.zero : Page)) 54) = W := ⟨_, rfl⟩
  have tW : Tch [] w W := by rw [← hW]; exact (Tch.refl _ _).alloc _
  have bW : W.heap[w.heap.size]? = some (.cells (secA (Arr.zero : Page)) 54) := by rw [← hW]; exact heap_alloc_new _ _
  have h1 := h.old tW
  have c0 := h1.c0
  have cM := h1.cM
  have HW := Lib.hid hW
  have TW := Lib.hid tW
  have BW := Lib.hid bW
  have H1 := Lib.hid h1
  have OKK := Lib.hid ok
  have CM := Lib.hid (pmay_any h1 ok n)
  have NG : Hid (w.heap.size ∉ [g]) := by
    intro hm
    have := List.mem_singleton.1 hm
    exact h1.ncell bW (by rw [this]; simp)
  have HZ : Hid (0 < w.heap.size) := block_lt_of_cell (h.tab 0 0 rfl)
  clear hW tW bW h1 h ok
  have FIN : Hid (∀ (wX : World) (P' : PgS), PgAt wX p g d L M V Mo P' → Tch [g] w wX → (∃ y, wX.heap[w.heap.size]? = some (.cells (secA (y : Page)) 54)) → ∀ q : Page, PgAt (wX.setRow w.heap.size (secA q)) p g d L M V Mo P' ∧ Tch [g] w (wX.setRow w.heap.size (secA q))) := fun wX P' hX tX hb q => by
    obtain ⟨y, hb⟩ := hb
    have t : Tch [w.heap.size] wX (wX.setRow w.heap.size (secA q)) := (Tch.refl _ _).setRow (.inl (by simp)) _
    have nb := hX.ncell hb
    have nz : 0 ≠ w.heap.size := Nat.ne_of_lt HZ.out
    exact ⟨hX.touch t fun k hk hm => by
      rw [List.mem_singleton.1 hm] at hk
      rcases List.mem_cons.1 hk with e | hk
      · exact nz e.symm
      · exact nb hk, tX.setRow (.inr (Nat.le_refl _)) _⟩
  by_cases hm : P.may n = 0
  · obtain ⟨h2, hnp⟩ : 2 ≤ n ∧ n < P.pages := by
      unfold PgS.may at hm
      split at hm
      · cases hm
      · omega
    rw [hm] at CM
    cases hov : P.over n with
    | some x =>
      have e : P.get n = ((x, 0), P) := by unfold PgS.get; rw [if_neg (by simp [hm]), hov]
      have E := Lib.hid e
      have HSX : Hid (∀ z, (((P.over n).map fun x => Value.agg (secA x)).getD z) = .agg (secA x)) := fun z => by rw [hov]; rfl
      have HSS : Hid (((P.over n).map fun x => Value.agg (secA x)).isSome = true) := by show _ = _; rw [hov]; rfl
      have BA : Hid (∀ o, (W.alloc o).heap[w.heap.size]? = some (.cells (secA (Arr.zero : Page)) 54)) := fun o => ((Tch.refl [] W).alloc o).heap BW.out (by simp)
      clear e hm hov h2 hnp
      go_enter Tryz.func23, Tryz.ntmps23
      go_upto_region 1 with ((with_reducible refine wc_alloc_arr pageT ?_); go_frame)
      rw [HW.out]
      go_wp2_with (first | (go_at_call 52; refine CM.out.mono ?_; rintro e w' ⟨rfl, rfl⟩) | ((with_reducible refine wc_lookup2 keyI uMapPage (z := .agg (secA (Arr.zero : Page))) (pageT.zero _) H1.out.hM (kk := n) ?_ ?_ ?_); exact rfl; exact rfl; simp only [HSX.out, HSS.out]; go_frame) | ((with_reducible refine wc_alloc_arr pageT ?_); go_frame) | ((with_reducible apply wc_store_new pageT); exact rfl; exact rfl; go_frame) | ((with_reducible apply wc_load_new pageT); exact rfl; go_frame) | ((with_reducible apply wc_store_var pageT (BA.out _)); exact rfl; exact rfl; go_frame))
      refine bodyPost_ret (res_cell_tmp pageT.agg rfl _ rfl (setRow_heap _ _ _ _ _ _ (BA.out _)) (size_secA _)) rfl ?_
      rw [E.out]
      exact ⟨rfl, FIN.out _ _ (H1.out.old ((Tch.refl [] W).alloc _)) ((TW.out.alloc _).mono (by simp)) ⟨_, BA.out _⟩ _⟩
    | none =>
      have e : P.get n = ((P.log.read n).1, { P with log := (P.log.read n).2 }) := by unfold PgS.get; rw [if_neg (by simp [hm]), hov]
      have E := Lib.hid e
      have HSX : Hid (∀ z, (((P.over n).map fun x => Value.agg (secA x)).getD z) = z) := fun z => by rw [hov]; rfl
      have HSS : Hid (((P.over n).map fun x => Value.agg (secA x)).isSome = false) := by show _ = _; rw [hov]; rfl
      clear e hm hov h2 hnp
      go_enter Tryz.func23, Tryz.ntmps23
      go_upto_region 1 with ((with_reducible refine wc_alloc_arr pageT ?_); go_frame)
      rw [HW.out]
      have A0 : Tch [] W (W.alloc (.cells (secA (Arr.zero : Page)) 54)) := (Tch.refl _ _).alloc _
      have d0 := cell_old A0 c0
      have A1 := Lib.hid A0
      clear A0
      go_upto_region 7 with (first | (go_at_call 52; refine CM.out.mono ?_; rintro e w' ⟨rfl, rfl⟩) | ((with_reducible refine wc_lookup2 keyI uMapPage (z := .agg (secA (Arr.zero : Page))) (pageT.zero _) H1.out.hM (kk := n) ?_ ?_ ?_); exact rfl; exact rfl; simp only [HSX.out, HSS.out]; go_frame) | ((with_reducible refine wc_alloc_arr pageT ?_); go_frame) | ((with_reducible apply wc_store_new pageT); exact rfl; exact rfl; go_frame))
      have BA := Lib.hid (A1.out.heap BW.out (by simp))
      have RD : Hid (Calls Tryz.prog 58 #[.pointer (some ⟨g, 0, none⟩), .int .i64 n] (W.alloc (.cells (secA (Arr.zero : Page)) 54)) fun e w'' => e = .returned (.tuple #[.agg (secA (P.log.read n).1.1), .int .i64 (P.log.read n).1.2]) ∧ PgAt w'' p g d L M V Mo { P with log := (P.log.read n).2 } ∧ Tch [g] w w'' ∧ w''.heap[w.heap.size]? = some (.cells (secA (Arr.zero : Page)) 54)) := by
        have H2 := H1.out.old A1.out
        exact (logRead_any H2.log OKK.out.log n).mono fun e w'' ⟨a1, a2, a3⟩ => ⟨a1, H2.logged a2 a3 (fun hm => H2.np g (by simp) (List.mem_singleton.1 hm).symm) (fun hm => H2.nMo.1 (by rw [List.mem_singleton.1 hm]; simp)) (fun hm => H2.nMo.2.2 (by rw [List.mem_singleton.1 hm]; simp)), ((TW.out.trans A1.out).mono (by simp)).trans a3, a3.heap BA.out NG.out⟩
      generalize hq : (P.log.read n).1.1 = q at *
      generalize her : (P.log.read n).1.2 = er at *
      have HQE := Lib.hid (And.intro hq her)
      clear hq her
      go_upto_region 7 with fail
      go_wp2_with (first | (go_at_call 58; refine RD.out.mono ?_; rintro e w5 ⟨rfl, q1, q2, q3⟩; have Q1 := Lib.hid q1; have Q2 := Lib.hid q2; have Q3 := Lib.hid q3; clear q1 q2 q3) | ((with_reducible apply wc_store_var pageT Q3.out); exact rfl; exact rfl; go_frame))
      refine bodyPost_ret (res_cell_tmp pageT.agg rfl _ rfl (setRow_heap _ _ _ _ _ _ Q3.out) (size_secA _)) rfl ?_
      rw [E.out]
      simp only []
      rw [HQE.out.1, HQE.out.2]
      exact ⟨rfl, FIN.out _ _ Q1.out Q2.out ⟨_, Q3.out⟩ _⟩
  · have e : P.get n = ((Arr.zero, P.may n), P) := by unfold PgS.get; rw [if_pos hm]
    have E := Lib.hid e
    generalize P.may n = er at *
    clear e
    go_enter Tryz.func23, Tryz.ntmps23
    go_upto_region 1 with ((with_reducible refine wc_alloc_arr pageT ?_); go_frame)
    rw [HW.out]
    go_wp2_with (first | (go_at_call 52; refine CM.out.mono ?_; rintro e w' ⟨rfl, rfl⟩) | ((with_reducible apply wc_build_arr pageT); exact rfl; go_frame) | ((with_reducible apply wc_store_var pageT BW.out); exact rfl; exact rfl; go_frame))
    refine bodyPost_ret (res_cell_tmp pageT.agg rfl _ rfl (setRow_heap _ _ _ _ _ _ BW.out) (size_secA _)) rfl ?_
    rw [E.out]
    exact ⟨rfl, FIN.out _ _ H1.out (TW.out.mono (by simp)) ⟨_, BW.out⟩ _⟩
set_option maxRecDepth 20000 in
set_option maxHeartbeats 1000000 in
theorem pput_any {w : World} {p g d L M V Mo : Nat} {P : PgS} (h : PgAt w p g d L M V Mo P) (ok : P.Ok) (n : Int) (x : Page) :
    Calls Tryz.prog 28 #[.pointer (some ⟨p, 0, none⟩), .int .i64 n, .agg (secA x)] w fun e w' => e = .returned (.int .i64 (P.put n x).1) ∧ PgAt w' p g d L M V Mo (P.put n x).2 ∧ Tch [Mo] w w' := by
  obtain ⟨W, hW⟩ : ∃ W, w.alloc (.cells (secA x) 54) = W := ⟨_, rfl⟩
  have tW : Tch [] w W := by rw [← hW]; exact (Tch.refl _ _).alloc _
  have bW : W.heap[w.heap.size]? = some (.cells (secA x) 54) := by rw [← hW]; exact heap_alloc_new _ _
  have h1 := h.old tW
  have cM := h1.cM
  have HW := Lib.hid hW
  have TW := Lib.hid tW
  have BW := Lib.hid bW
  have H1 := Lib.hid h1
  have CM := Lib.hid (pmay_any h1 ok n)
  clear hW tW bW h1 h ok
  by_cases hm : P.may n = 0
  · have e : P.put n x = (0, { P with over := fun j => if j = n then some x else P.over j }) := by unfold PgS.put; rw [if_neg (by simp [hm])]
    rw [hm] at CM
    have E := Lib.hid e
    clear e hm
    go_enter Tryz.func28, Tryz.ntmps28
    go_upto_region 1 with ((with_reducible refine wc_box_agg ?_ ?_); exact rfl; go_frame)
    rw [HW.out]
    go_upto_region 3 with (go_at_call 52; refine CM.out.mono ?_; rintro e w' ⟨rfl, rfl⟩)
    (refine wp_region_walk (C := fun w' => ∃ n, w' = World.drewN W n) 6 (by kernel_rfl) (by kernel_rfl) ⟨1, rfl⟩ ?_; simp only [List.take_succ_cons, List.take_zero, List.drop_succ_cons, List.drop_zero]; (repeat (first | ((with_reducible apply wq_load_var pageT (drewN_heap BW.out)); exact rfl; exact rfl; go_frame) | go_big_quiet_step (fail))); refine wpQuiet_nil ?_; intro _ hw'; obtain ⟨nq, hw''⟩ := hw'; subst hw'')
    refine wc_mapUpdate keyI uMapPage (H1.out.hM.touch (tch_drewN W nq) (by simp)) (kk := n) (v := .agg (secA x)) rfl rfl rfl (fun w5 t5 h5 => ?_)
    rw [overV_upd] at h5
    have H5 := Lib.hid ((H1.out.old (tch_drewN W nq)).over h5 t5)
    have T5 := Lib.hid (((TW.out.trans (tch_drewN W nq)).mono (by simp)).trans t5)
    clear t5 h5
    go_frame
    go_wp2_with fail
    go_ret
    rw [E.out]
    exact ⟨rfl, H5.out, T5.out⟩
  · have e : P.put n x = (P.may n, P) := by unfold PgS.put; rw [if_pos hm]
    have hm' : ((P.may n : Int) == 0) = false := by simpa using hm
    have E := Lib.hid e
    generalize hq : P.may n = er at *
    have HQ := Lib.hid hq
    clear e hq
    go_enter Tryz.func28, Tryz.ntmps28
    go_upto_region 1 with ((with_reducible refine wc_box_agg ?_ ?_); exact rfl; go_frame)
    rw [HW.out]
    go_wp2_with (go_at_call 52; refine CM.out.mono ?_; rintro e w' ⟨rfl, rfl⟩)
    go_ret
    rw [E.out]
    exact ⟨rfl, H1.out, TW.out.mono (by simp)⟩
/-- A state's cell was written by 'set'. -/
theorem PgAt.set_now {w w' : World} {p g d L M V Mo : Nat} {P : PgS} (h : PgAt w p g d L M V Mo P) {n : Nat} (hn : n < 16384) {tk : Bool} (hp : w'.heap[p]? = some (.cells ((pgA g P.pages P.now P.last Mo).setIfInBounds (3 + n / 64) (.int .u64 ((P.now.set n tk).word (n / 64)))) 104)) (ht : Tch [p] w w') : PgAt w' p g d L M V Mo { P with now := P.now.set n tk } := by
  rw [pgA_set _ _ _ _ _ (by omega) (stA_setw P.now n tk hn)] at hp
  exact h.states hp ht
set_option maxRecDepth 20000 in
set_option maxHeartbeats 1000000 in
theorem psetRoot_any {w : World} {p g d L M V Mo : Nat} {P : PgS} (h : PgAt w p g d L M V Mo P) (ok : P.Ok) (i n : Int) :
    Calls Tryz.prog 29 #[.pointer (some ⟨p, 0, none⟩), .int .i64 i, .int .i64 n] w fun e w' => e = .returned (.int .i64 (P.setRoot i n).1) ∧ PgAt w' p g d L M V Mo (P.setRoot i n).2 ∧ Tch [p] w w' := by
  have CR := Lib.hid (proot_any h i)
  by_cases hi : i < 0 ∨ 8 ≤ i
  · have e : P.setRoot i n = (2, P) := if_pos hi
    have e2 : P.root i = (0, 2) := if_pos hi
    rw [e2] at CR
    have E := Lib.hid e
    have H := Lib.hid h
    clear e e2 h ok hi
    go_enter Tryz.func29, Tryz.ntmps29
    go_wp2_with (go_at_call 24; refine CR.out.mono ?_; rintro e w' ⟨rfl, rfl⟩)
    go_ret
    rw [E.out]
    exact ⟨rfl, H.out, Tch.refl _ _⟩
  have e2 : P.root i = ((P.now.roots i.toNat : Int), 0) := if_neg hi
  rw [e2] at CR
  have CM := Lib.hid (pmay_any h ok n)
  obtain ⟨k, rfl⟩ := Int.eq_ofNat_of_zero_le (show 0 ≤ i by omega)
  have hk8 : k < 8 := by omega
  have FIN : Hid (∀ m : Nat, (n = m) → PgAt (w.setCell ⟨p, 259 + k, none⟩ (.int .i64 n)) p g d L M V Mo { P with now := P.now.setRoot k m } ∧ Tch [p] w (w.setCell ⟨p, 259 + k, none⟩ (.int .i64 n))) := fun m hm => by
    subst hm
    have t : Tch [p] w (w.setCell ⟨p, 259 + k, none⟩ (.int .i64 (m : Int))) := (Tch.refl _ _).setCell (.inl (by simp)) _
    refine ⟨h.states ?_ t, t⟩
    rw [heap_setCell_cells h.hp, show 259 + k = 3 + (256 + k) by omega, pgA_set _ _ _ _ _ (by omega) (stA_setr P.now k m hk8)]
  have cR := h.cR hk8
  have fR := frozen_of_row w p (259 + k) _ _ h.hp
  have hk9 : (k : Int) < 8 := by omega
  by_cases hn0 : n = 0
  · subst hn0
    have e : P.setRoot k 0 = (0, { P with now := P.now.setRoot k 0 }) := by unfold PgS.setRoot; rw [if_neg hi, if_neg (by simp)]; rfl
    have E := Lib.hid e
    generalize ((P.now.roots (k : Int).toNat : Nat) : Int) = r at *
    clear e e2 h ok hi hk8
    go_enter Tryz.func29, Tryz.ntmps29
    go_wp2_with (go_at_call 24; refine CR.out.mono ?_; rintro e w' ⟨rfl, rfl⟩)
    go_ret
    rw [E.out]
    exact ⟨rfl, FIN.out 0 rfl⟩
  by_cases hm : P.may n = 0
  · obtain ⟨h2, hnp⟩ : 2 ≤ n ∧ n < P.pages := by
      unfold PgS.may at hm
      split at hm
      · cases hm
      · omega
    have e : P.setRoot k n = (0, { P with now := P.now.setRoot k n.toNat }) := by unfold PgS.setRoot; rw [if_neg hi, if_neg (by simp [hm])]; rfl
    have E := Lib.hid e
    rw [hm] at CM
    have HN : Hid (n = (n.toNat : Int)) := by show _ = _; omega
    generalize ((P.now.roots (k : Int).toNat : Nat) : Int) = r at *
    clear e e2 h ok hi hk8 hm h2 hnp
    go_enter Tryz.func29, Tryz.ntmps29
    go_wp2_with (first | (go_at_call 24; refine CR.out.mono ?_; rintro e w' ⟨rfl, rfl⟩) | (go_at_call 52; refine CM.out.mono ?_; rintro e w' ⟨rfl, rfl⟩))
    go_ret
    rw [E.out]
    exact ⟨rfl, FIN.out _ HN.out⟩
  · have e : P.setRoot k n = (P.may n, P) := by unfold PgS.setRoot; rw [if_neg hi, if_pos ⟨hn0, hm⟩]
    have hm' : ((P.may n : Int) == 0) = false := by simpa using hm
    have E := Lib.hid e
    have H := Lib.hid h
    generalize hq : P.may n = er at *
    have HQ := Lib.hid hq
    generalize ((P.now.roots (k : Int).toNat : Nat) : Int) = r at *
    clear e e2 hq h ok hi hk8 FIN
    go_enter Tryz.func29, Tryz.ntmps29
    go_wp2_with (first | (go_at_call 24; refine CR.out.mono ?_; rintro e w' ⟨rfl, rfl⟩) | (go_at_call 52; refine CM.out.mono ?_; rintro e w' ⟨rfl, rfl⟩))
    go_ret
    rw [E.out]
    exact ⟨rfl, H.out, Tch.refl _ _⟩
end Go.Proofs.YtkjgbhpnlgcinaaGreatDoor
/-
  Pages in memory: package page's Give, Take, Rollback.
-/
namespace Go.Cib
open Go Go.RowKit
/-- The roots, as numbers. -/
def StS.rootInts (s : StS) : List Int := (List.range 8).map fun i => (s.roots i : Int)
theorem PgS.isRoot_mem (P : PgS) (n : Int) : P.isRoot n = decide (n ∈ P.now.rootInts) := by
  unfold PgS.isRoot StS.rootInts
  rw [Bool.eq_iff_iff, List.any_eq_true, decide_eq_true_eq, List.mem_map]
  simp
end Go.Cib
namespace Go.Proofs.YtkjgbhpnlgcinaaGreatDoor
open Go.RowKit Go.Cib
set_option maxRecDepth 20000 in
set_option maxHeartbeats 400000 in
theorem iindex_any {w : World} {a : Option Addr} {cap : Nat} {l : List Int} (h : IntsAt w a l) (x : Int) (hl : l.length ≤ 1000) :
    Calls Tryz.prog 106 #[.slice a l.length cap, .int .i64 x] w fun e w' => (∃ r : Int, e = .returned (.int .i64 r) ∧ (x ∈ l → 0 ≤ r) ∧ (x ∉ l → r < 0)) ∧ w = w' := by
  obtain ⟨m, hm⟩ : ∃ m, l.length = m := ⟨_, rfl⟩
  rw [hm] at hl ⊢
  have HM := Lib.hid hm
  have HH := Lib.hid h
  clear hm h
  go_enter Tryz.func106, Tryz.ntmps106
  go_wp2_with fail
  go_loopg [8] m (fun q i wr => ∃ j, OnAt m i q j ∧ wr = w ∧ x ∉ l.take j)
  case atStart => exact ⟨0, ⟨Nat.zero_le _, rfl, rfl⟩, rfl, by simp⟩
  case round =>
    obtain ⟨j, ⟨hj, rfl, rfl⟩, rfl, hx⟩ := hrel
    have HX := Lib.hid hx
    clear hx
    by_cases hjm : j < m
    · obtain ⟨n, hn⟩ : ∃ n, l[j]? = some n := ⟨_, List.getElem?_eq_getElem (by rw [HM.out]; exact hjm)⟩
      obtain ⟨b, o, rfl, hc⟩ := HH.out j n hn
      have HN := Lib.hid hn
      clear hn
      by_cases hxn : x = n
      · have hb : (x == n) = true := by simp [hxn]
        have HXN := Lib.hid hxn
        clear hxn
        go_wp2_with fail
        go_ret
        refine ⟨⟨_, rfl, fun _ => by omega, fun hnm => absurd (HXN.out ▸ List.mem_of_getElem? HN.out) hnm⟩, rfl⟩
      · have hb : (x == n) = false := by simpa using hxn
        have HXN := Lib.hid hxn
        clear hxn
        go_wp2_with fail
        go_roundg (m - (j + 1))
        case measure => omega
        case rel =>
          refine ⟨j + 1, ⟨by omega, by go_num, rfl⟩, rfl, ?_⟩
          rw [List.take_add_one, HN.out]
          intro hm
          rcases List.mem_append.1 hm with h1 | h1
          · exact HX.out h1
          · simp at h1; exact HXN.out h1
    · have hfull : l.take j = l := List.take_of_length_le (by rw [HM.out]; omega)
      rw [hfull] at HX
      clear hfull
      go_wp2_with fail
      go_ret
      exact ⟨⟨_, rfl, fun hm => absurd hm HX.out, fun _ => by decide⟩, rfl⟩
set_option maxRecDepth 20000 in
set_option maxHeartbeats 400000 in
theorem icontains_any {w : World} {a : Option Addr} {cap : Nat} {l : List Int} (h : IntsAt w a l) (x : Int) (hl : l.length ≤ 1000) :
    Calls Tryz.prog 53 #[.slice a l.length cap, .int .i64 x] w fun e w' => e = .returned (.bool (decide (x ∈ l))) ∧ w = w' := by
  have CI := Lib.hid (iindex_any (cap := cap) h x hl)
  obtain ⟨m, hm⟩ : ∃ m, l.length = m := ⟨_, rfl⟩
  rw [hm] at CI ⊢
  clear h hl hm
  by_cases hx : x ∈ l
  · have HX := Lib.hid hx
    clear hx
    go_enter Tryz.func53, Tryz.ntmps53
    go_wp2_with (go_at_call 106; refine CI.out.mono ?_; rintro e w' ⟨⟨r, rfl, q1, q2⟩, rfl⟩; have hr : 0 ≤ r := q1 HX.out; clear q1 q2)
    go_ret
    exact ⟨by rw [decide_eq_true HX.out]; first | rfl | (rw [← decide_eq_true hr]; rfl), rfl⟩
  · have HX := Lib.hid hx
    clear hx
    go_enter Tryz.func53, Tryz.ntmps53
    go_wp2_with (go_at_call 106; refine CI.out.mono ?_; rintro e w' ⟨⟨r, rfl, q1, q2⟩, rfl⟩; have hr : ¬ 0 ≤ r := (by have := q2 HX.out; omega); clear q1 q2)
    go_ret
    exact ⟨by rw [decide_eq_false HX.out]; first | rfl | (rw [← decide_eq_false (show ¬ 0 ≤ r by omega)]; rfl), rfl⟩
set_option maxRecDepth 20000 in
set_option maxHeartbeats 1000000 in
theorem pgive_any {w : World} {p g d L M V Mo : Nat} {P : PgS} (h : PgAt w p g d L M V Mo P) (ok : P.Ok) (n : Int) :
    Calls Tryz.prog 13 #[.pointer (some ⟨p, 0, none⟩), .int .i64 n] w fun e w' => e = .returned (.int .i64 (P.give n).1) ∧ PgAt w' p g d L M V Mo (P.give n).2 ∧ Tch [p, Mo] w w' := by
  have CM := Lib.hid (pmay_any h ok n)
  by_cases hm : P.may n = 0
  · obtain ⟨h2, hnp⟩ : 2 ≤ n ∧ n < P.pages := by
      unfold PgS.may at hm
      split at hm
      · cases hm
      · omega
    have p4 := ok.p4
    obtain ⟨k, rfl⟩ := Int.eq_ofNat_of_zero_le (show 0 ≤ n by omega)
    rw [hm] at CM
    have hI : IntsAt w (some ⟨p, 259, none⟩) P.now.rootInts := by
      intro j x hj
      have hj8 : j < 8 := by have := (List.getElem?_eq_some_iff.1 hj).1; simpa [StS.rootInts] using this
      have hx : x = (P.now.roots j : Int) := by
        unfold StS.rootInts at hj
        rw [List.getElem?_map, List.getElem?_range hj8] at hj
        simpa using hj.symm
      exact ⟨p, 259, rfl, by rw [hx]; exact h.cR hj8⟩
    have CC := Lib.hid (icontains_any (cap := 8) hI (k : Int) (by simp [StS.rootInts]))
    rw [show P.now.rootInts.length = 8 by simp [StS.rootInts], ← PgS.isRoot_mem] at CC
    have H := Lib.hid h
    have cM := h.cM
    cases hr : P.isRoot (k : Int) with
    | true =>
      have e : P.give (k : Int) = (92, P) := by unfold PgS.give; rw [if_neg (by simp [hm]), if_pos hr]
      have E := Lib.hid e
      rw [hr] at CC
      clear e hr hm hI h ok
      go_enter Tryz.func13, Tryz.ntmps13
      go_wp2_with (first | (go_at_call 52; refine CM.out.mono ?_; rintro e w' ⟨rfl, rfl⟩) | (go_at_call 53; refine CC.out.mono ?_; rintro e w' ⟨rfl, rfl⟩))
      go_ret
      rw [E.out]
      exact ⟨rfl, H.out, Tch.refl _ _⟩
    | false =>
      have e : P.give (k : Int) = (0, { P with now := P.now.set k false, over := fun j => if j = (k : Int) then none else P.over j }) := by unfold PgS.give; rw [if_neg (by simp [hm]), if_neg (by simp [hr])]; rfl
      have E := Lib.hid e
      rw [hr] at CC
      have CS : Hid (Calls Tryz.prog 51 #[.pointer (some ⟨p, 3, none⟩), .int .i64 k, .bool false] w fun e' w' => e' = .returned (.tuple #[]) ∧ PgAt w' p g d L M V Mo { P with now := P.now.set k false } ∧ Tch [p] w w') := (set_any h.hp (pgA_now _ _ _ _ _) k (by omega) false).mono fun e' w' ⟨a1, a2, a3⟩ => ⟨a1, h.set_now (by omega) a3 a2, a2⟩
      clear e hr hm hI h ok
      go_enter Tryz.func13, Tryz.ntmps13
      go_wp2_with (first | (go_at_call 52; refine CM.out.mono ?_; rintro e w' ⟨rfl, rfl⟩) | (go_at_call 53; refine CC.out.mono ?_; rintro e w' ⟨rfl, rfl⟩) | (go_at_call 51; refine CS.out.mono ?_; rintro e w5 ⟨rfl, q1, q2⟩; have Q1 := Lib.hid q1; have Q2 := Lib.hid q2; have cM5 := q1.cM; clear q1 q2) | ((with_reducible refine wc_delete (m := .tmp 27) (k := .tmp 28) (kk := (k : Int)) keyI uMapPage Q1.out.hM rfl ?_ ?_ ?_ ?_); exact rfl; exact rfl; exact rfl; intro w6 t6 h6; rw [overV_rem] at h6; go_frame; have H6 := Lib.hid (Q1.out.over h6 t6); have T6 : Hid (Tch [p, Mo] w w6) := (Q2.out.mono (by simp)).trans (t6.mono (by simp)); clear t6 h6))
      go_ret
      rw [E.out]
      exact ⟨rfl, H6.out, T6.out⟩
  · have e : P.give n = (P.may n, P) := by unfold PgS.give; rw [if_pos hm]
    have hm' : ((P.may n : Int) == 0) = false := by simpa using hm
    have E := Lib.hid e
    have H := Lib.hid h
    generalize hq : P.may n = er at *
    have HQ := Lib.hid hq
    clear e hq h ok
    go_enter Tryz.func13, Tryz.ntmps13
    go_wp2_with (go_at_call 52; refine CM.out.mono ?_; rintro e w' ⟨rfl, rfl⟩)
    go_ret
    rw [E.out]
    exact ⟨rfl, H.out, Tch.refl _ _⟩
theorem stA_one (s : StS) : ∀ v ∈ (stA s).toList, v.oneCell' = true := by
  intro v hv
  unfold stA at hv
  simp only [List.mem_append, List.mem_map, Array.toList_append] at hv
  rcases hv with ⟨i, _, rfl⟩ | ⟨i, _, rfl⟩ <;> rfl
theorem stateT : AggT Tryz.prog 101 264 := by
  refine ⟨?_, ?_⟩
  · have h : (Tryz.prog.underlying 101).map (fun d => match d with | .struct _ | .array _ _ => true | _ => false) = some true := by kernel_rfl
    obtain ⟨d, h1, h2⟩ := Option.map_eq_some_iff.1 h
    exact ⟨d, h1, h2⟩
  · have h : (Tryz.prog.info? 101).map (·.size) = some 264 := by kernel_rfl
    obtain ⟨d, h1, h2⟩ := Option.map_eq_some_iff.1 h
    exact ⟨d, h1, h2⟩
theorem wc_store_part {P : Program} {T : TypeId} {n : Nat} {ops : Array Oper} {rest : List Oper} {a : Act} {w : World} {Q : Exit → Act → World → Prop} {dst : Option Tmp} {ty : TypeId} {pos : String} {af : Array Edge} {x y : Operand} (hT : AggT P T n) {b off : Nat} {c : Array Value} {e : TypeId} {vs : Array Value} (hb : w.heap[b]? = some (.cells c e (0, 0))) (hin : off + n ≤ c.size) (hn : vs.size = n) (h1 : ∀ v ∈ vs.toList, v.oneCell' = true)
    (hx : a.eval x = .pointer (some ⟨b, off, none⟩)) (hy : a.eval y = .agg vs) (h : wpList P ops Q rest (a.put dst undef) (w.setRow b (spl c off vs))) : wpList P ops Q (⟨dst, .store T x y, ty, pos, af, none⟩ :: rest) a w :=
  wc_done rfl (exec_store_agg hT rfl hx hy hn h1 hb hin) h
set_option maxRecDepth 20000 in
set_option maxHeartbeats 1000000 in
theorem prollback_any {w : World} {p g d L M V Mo : Nat} {P : PgS} (h : PgAt w p g d L M V Mo P) :
    Calls Tryz.prog 19 #[.pointer (some ⟨p, 0, none⟩)] w fun e w' => e = .returned (.int .i64 0) ∧ PgAt w' p g d L M V Mo P.rollback ∧ Tch [p, Mo] w w' := by
  have HP := Lib.hid h.hp
  have HA := Lib.hid (pgA_last g P.pages P.now P.last Mo).all
  have HSZ : Hid (267 + 264 ≤ (pgA g P.pages P.now P.last Mo).size) := by show _ ≤ _; rw [size_pgA]; omega
  have HSY : Hid (3 + 264 ≤ (pgA g P.pages P.now P.last Mo).size) := by show _ ≤ _; rw [size_pgA]; omega
  have HS1 := Lib.hid (size_stA P.last)
  have HS2 := Lib.hid (stA_one P.last)
  have H1 : Hid (PgAt (w.setRow p (spl (pgA g P.pages P.now P.last Mo) 3 (stA P.last))) p g d L M V Mo { P with now := P.last }) := by
    refine h.states (s1 := P.last) (s2 := P.last) ?_ ((Tch.refl _ _).setRow (.inl (by simp)) _)
    rw [pgA_storeNow]
    exact setRow_heap _ _ _ _ _ _ h.hp
  have T1 : Hid (Tch [p] w (w.setRow p (spl (pgA g P.pages P.now P.last Mo) 3 (stA P.last)))) := (Tch.refl _ _).setRow (.inl (by simp)) _
  have cM1 := H1.out.cM
  clear h
  go_enter Tryz.func19, Tryz.ntmps19
  generalize stA P.last = vs at *
  generalize pgA g P.pages P.now P.last Mo = cs at *
  go_upto_region 4 with (first | ((with_reducible refine wc_load_part stateT HP.out HSZ.out HA.out ?_ ?_); exact rfl; go_frame) | ((with_reducible refine wc_store_part stateT HP.out HSY.out HS1.out HS2.out ?_ ?_ ?_); exact rfl; exact rfl; go_frame))
  generalize w.setRow p (spl cs 3 vs) = w1 at *
  go_wp2_with ((with_reducible apply wc_clear uMapPage H1.out.hM); exact rfl; exact rfl; exact rfl; intro w5 t5 hm5; go_frame; have HT5 := Lib.hid t5; have HM5 := Lib.hid hm5; clear t5 hm5)
  go_ret
  exact ⟨rfl, H1.out.over (o := fun _ => none) HM5.out HT5.out, (T1.out.mono (by simp)).trans (HT5.out.mono (by simp))⟩
end Go.Proofs.YtkjgbhpnlgcinaaGreatDoor
