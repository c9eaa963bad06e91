/-
  Views and their twins: ciboriumlaw17's does, of a Sub; any op.
-/
import Derived.Test.YtcdgeeoajhbneaaWorldW
namespace Go.Proofs.Ytcdgeeoajhbneaa
open Go.RowKit Go.Cib
theorem vwT : OneT Try.prog 26 24 (.pointer none) 8 := .of (by kernel_rfl) (by kernel_rfl) rfl
theorem rvT : OneT Try.prog 29 27 (.pointer none) 8 := .of (by kernel_rfl) (by kernel_rfl) rfl
theorem one_ptr (b : Nat) : ∀ u ∈ [ptr b], u.oneCell' = true := by
  intro u hu
  rw [List.mem_singleton.1 hu]
  rfl
theorem cell_one_set (w : World) (p : Addr) (v x : Value) (t : TypeId) : ((w.setCell p v).alloc (.cells #[x] t)).cell? ⟨w.heap.size, 0, none⟩ = some x := by
  have := cell_one_at (w.setCell p v) x t
  rwa [show (w.setCell p v).heap.size = w.heap.size by simp] at this
/-- Behind an op: the world, and all that it may write lies from 'base' on. -/
def OutB (base : Nat) (w : World) (W X M g : Nat) (lv mv kv vv : Value) (N : Nat) (w' : World) : Prop :=
  ∃ lv' mv' kv' vv' ls' ms' ps' A' B', World17 w' W X M g lv' mv' kv' vv' ls' ms' ps' A' B' (N + 1) ∧ Tch (own17 W M g lv mv kv vv) w w' ∧ ∀ k ∈ own17 W M g lv' mv' kv' vv', base ≤ k
theorem Out17.base {w w' : World} {W X M g : Nat} {lv mv kv vv : Value} {ps : List ByteArray} {A : List Kv} {N base : Nat} (h : Out17 w W X M g lv mv kv vv ps A N w') (hb : base ≤ w.heap.size) (ho : ∀ k ∈ own17 W M g lv mv kv vv, base ≤ k) : OutB base w W X M g lv mv kv vv N w' := by
  obtain ⟨lv', mv', kv', vv', ls', ms', ps', A', B', h1, h2, h3, _⟩ := h
  exact ⟨lv', mv', kv', vv', ls', ms', ps', A', B', h1, h2, fun k hk => (h3 k hk).elim (ho k) fun h => Nat.le_trans hb h⟩
theorem World17.subbed {w w2 w6 : World} {W X M g : Nat} {lv mv lv' mv' kv vv : Value} {ls ms : List Nat} {ps : List ByteArray} {A B : List Kv} {N base x y : Nat} {p key : ByteArray} (h : World17 w W X M g lv mv kv vv ls ms ps A B N)
    (hp : p ∈ ps) (hs : (p ++ key).size ≤ 100) (hn : ps.length < 12) (t2 : Tch [] w w2) (hx : w.heap.size ≤ x) (hv : ViewAt w2 x X (p ++ key)) (hy : w.heap.size ≤ y) (hr : RViewAt w2 y g (p ++ key))
    (t6 : Tch (W :: (lv.ownBlock.toList ++ mv.ownBlock.toList)) w2 w6) (hW : w6.heap[W]? = some (.cells #[lv', mv'] 31)) (hl : OwnVals w6 base 24 lv' (ls.map ptr ++ [ptr x])) (hm : OwnVals w6 base 27 mv' (ms.map ptr ++ [ptr y]))
    (ho : ∀ k ∈ own17 W M g lv mv kv vv, base ≤ k) : OutB base w W X M g lv mv kv vv N w6 := by
  have nn : ∀ {k : Nat} {o : Obj}, w.heap[k]? = some o → (∀ c fr, o ≠ .cells c 31 fr) → (∀ c fr, o ≠ .cells c 24 fr) → (∀ c fr, o ≠ .cells c 27 fr) → k ∉ W :: (lv.ownBlock.toList ++ mv.ownBlock.toList) := fun {k o} hk e1 e2 e3 hm => by
    rcases List.mem_cons.1 hm with rfl | hm
    · rw [h.hW] at hk
      exact e1 _ _ (Option.some.inj hk).symm
    · rcases List.mem_append.1 hm with hm | hm
      · obtain ⟨c, hc⟩ := ptrs_type h.hl k hm
        rw [hc] at hk
        exact e2 _ _ (Option.some.inj hk).symm
      · obtain ⟨c, hc⟩ := ptrs_type h.hm k hm
        rw [hc] at hk
        exact e3 _ _ (Option.some.inj hk).symm
  have ng : ∀ {k : Nat}, w.heap.size ≤ k → k ∉ W :: (lv.ownBlock.toList ++ mv.ownBlock.toList) := fun {k} hk hm => by
    have h1 := lt_of_heap h.hW
    rcases List.mem_cons.1 hm with rfl | hm
    · omega
    · rcases List.mem_append.1 hm with hm | hm
      · have := (h.hl.lt k hm).2; omega
      · have := (h.hm.lt k hm).2; omega
  have ll : (ls ++ [x]).map ptr = ls.map ptr ++ [ptr x] := by simp
  have lm : (ms ++ [y]).map ptr = ms.map ptr ++ [ptr y] := by simp
  refine ⟨lv', mv', kv, vv, ls ++ [x], ms ++ [y], ps ++ [p ++ key], A, B, ⟨hW, by rw [ll]; exact hl.low (Nat.zero_le _), by rw [lm]; exact hm.low (Nat.zero_le _), ?_, ?_, by simp [h.ll], by simp [h.lm], by simp, by simp; omega, ?_, ?_, ?_, ?_, h.sz, Nat.le_succ_of_le h.la, Nat.le_succ_of_le h.lb⟩, ?_, ?_⟩
  · intro i b q e1 e2
    rcases Nat.lt_or_ge i ls.length with hi | hi
    · rw [List.getElem?_append_left hi] at e1
      rw [List.getElem?_append_left (by rw [← h.ll]; exact hi)] at e2
      have hV := h.views i b q e1 e2
      exact (hV.touch t2 (by simp)).touch t6 (nn hV (by simp) (by simp) (by simp))
    · rw [List.getElem?_append_right hi] at e1
      rw [List.getElem?_append_right (by rw [← h.ll]; exact hi), ← h.ll] at e2
      obtain ⟨e3, e4⟩ : i - ls.length = 0 ∧ b = x := by
        rcases hj : i - ls.length with _ | j
        · rw [hj] at e1; simp at e1; exact ⟨rfl, e1.symm⟩
        · rw [hj] at e1; simp at e1
      rw [e3] at e2
      have e5 : q = p ++ key := by simp at e2; exact e2.symm
      rw [e4, e5]
      exact hv.touch t6 (ng hx)
  · intro i b q e1 e2
    rcases Nat.lt_or_ge i ms.length with hi | hi
    · rw [List.getElem?_append_left hi] at e1
      rw [List.getElem?_append_left (by rw [← h.lm]; exact hi)] at e2
      have hV := h.twins i b q e1 e2
      exact (hV.touch t2 (by simp)).touch t6 (nn hV (by simp) (by simp) (by simp))
    · rw [List.getElem?_append_right hi] at e1
      rw [List.getElem?_append_right (by rw [← h.lm]; exact hi), ← h.lm] at e2
      obtain ⟨e3, e4⟩ : i - ms.length = 0 ∧ b = y := by
        rcases hj : i - ms.length with _ | j
        · rw [hj] at e1; simp at e1; exact ⟨rfl, e1.symm⟩
        · rw [hj] at e1; simp at e1
      rw [e3] at e2
      have e5 : q = p ++ key := by simp at e2; exact e2.symm
      rw [e4, e5]
      exact hr.touch t6 (ng hy)
  · intro q hq
    rcases List.mem_append.1 hq with hq | hq
    · exact h.pp q hq
    · rw [List.mem_singleton.1 hq]; exact hs
  · obtain ⟨es, clk, hM, _⟩ := h.mem.hM
    exact (h.mem.old t2).touch t6 (nn h.mem.hX (by simp) (by simp) (by simp)) (nn hM (by simp) (by simp) (by simp))
  · refine (h.bk.old t2).touch t6 (nn h.bk.hg (by simp) (by simp) (by simp)) (fun k hk => ?_) (fun k hk => ?_)
    · obtain ⟨c, hc⟩ := ptrs_type h.bk.hk k hk
      exact nn hc (by simp) (by simp) (by simp)
    · obtain ⟨c, hc⟩ := ptrs_type h.bk.hv k hk
      exact nn hc (by simp) (by simp) (by simp)
  · intro q hq
    rcases List.mem_append.1 hq with hq | hq
    · exact h.ag q hq
    · rw [List.mem_singleton.1 hq]
      exact fun k hk => h.ag p hp k (begins_append hk)
  · refine (t2.mono (by simp)).trans (t6.mono fun k hk => ?_)
    unfold own17
    simp only [List.mem_cons, List.mem_append] at hk ⊢
    rcases hk with hk | hk | hk
    · exact .inl hk
    · exact .inr (.inr (.inr (.inl hk)))
    · exact .inr (.inr (.inr (.inr (.inl hk))))
  · intro k hk
    have hb := ho k
    unfold own17 at hb hk
    simp only [List.mem_cons, List.mem_append] at hb hk
    rcases hk with hk | hk | hk | hk | hk | hk | hk
    · exact hb (.inl hk)
    · exact hb (.inr (.inl hk))
    · exact hb (.inr (.inr (.inl hk)))
    · exact (hl.lt k hk).1
    · exact (hm.lt k hk).1
    · exact hb (.inr (.inr (.inr (.inr (.inr (.inl hk))))))
    · exact hb (.inr (.inr (.inr (.inr (.inr (.inr hk))))))
set_option maxRecDepth 20000 in
set_option maxHeartbeats 2000000 in
theorem does17_6a {w : World} {W X M g : Nat} {lv mv kv vv : Value} {ls ms : List Nat} {ps : List ByteArray} {A B : List Kv} {N : Nat} (h : World17 w W X M g lv mv kv vv ls ms ps A B N) (hN : N < 100000) (o : OpV17) (hf : o.Fits) (hw : o.what = 6) {base : Nat} (hbase : base ≤ w.heap.size) (hown : ∀ k ∈ own17 W M g lv mv kv vv, base ≤ k) (hbig : ∀ p ∈ ps, ps[viewNo o.at_ ps.length]? = some p → 100 < p.size + o.key.size) :
    Calls Try.prog 7 #[.pointer (some ⟨W, 0, none⟩), .agg o.cells] w fun e w' => e = .returned (.bool true) ∧ OutB base w W X M g lv mv kv vv N w' := by
  obtain ⟨what, at_, num, key, val⟩ := o
  simp only at hw hbig
  subst hw
  unfold OpV17.cells
  simp only
  have hc := h.hl.cap_
  rw [List.length_map, h.ll] at hc
  obtain ⟨la, lcap, rfl, _, _⟩ := hc
  have hc := h.hm.cap_
  rw [List.length_map, h.lm] at hc
  obtain ⟨ma, mcap, rfl, _, _⟩ := hc
  have t0 : Tch [] w (w.alloc (.cells #[.int .i64 6, .int .i64 at_, .int .i64 num, .string key, .string val] 34)) := (Tch.refl _ _).alloc _
  have cW0 := cell_old t0 ((cell_of_row w W 0 _ _ _ h.hW).trans (by simp) : w.cell? ⟨W, 0, none⟩ = some (.slice la ps.length lcap))
  have cW1 := cell_old t0 ((cell_of_row w W 1 _ _ _ h.hW).trans (by simp) : w.cell? ⟨W, 1, none⟩ = some (.slice ma ps.length mcap))
  obtain ⟨i1, i2, i3, i4⟩ := viewNo_spec at_ h.n1
  obtain ⟨b, hb⟩ : ∃ b, ls[viewNo at_ ps.length]? = some b := ⟨_, List.getElem?_eq_getElem (by rw [h.ll]; exact i1)⟩
  obtain ⟨c, hc⟩ : ∃ c, ms[viewNo at_ ps.length]? = some c := ⟨_, List.getElem?_eq_getElem (by rw [h.lm]; exact i1)⟩
  obtain ⟨p, hp⟩ : ∃ p, ps[viewNo at_ ps.length]? = some p := ⟨_, List.getElem?_eq_getElem i1⟩
  have hV := h.views _ b p hb hp
  have hR := h.twins _ c p hc hp
  have hpm := List.mem_of_getElem? hp
  have hpp := h.pp p hpm
  have hag := h.ag p hpm
  have hA := h.mem.up
  have hB := h.bk.up
  have nbM : b ∉ [M] := by
    obtain ⟨es, clk, hM, _⟩ := h.mem.hM
    intro hm
    have : b = M := by simpa using hm
    unfold ViewAt at hV
    rw [this, hM] at hV; cases hV
  have ncM : c ∉ [M] := by
    obtain ⟨es, clk, hM, _⟩ := h.mem.hM
    intro hm
    have : c = M := by simpa using hm
    unfold RViewAt at hR
    rw [this, hM] at hR; cases hR
  have nwM : w.heap.size ∉ [M] := by
    obtain ⟨es, clk, hM, _⟩ := h.mem.hM
    intro hm
    have : w.heap.size = M := by simpa using hm
    exact ne_size hM this.symm
  have bkM : ∀ W', Tch [M] w W' → BookAt W' g kv vv B := fun W' ht => by
    obtain ⟨es, clk, hM, _⟩ := h.mem.hM
    have nM : ∀ {k : Nat} {c : Array Value} {e : TypeId}, w.heap[k]? = some (.cells c e) → k ∉ [M] := fun {k c e} hk hm => by
      have : k = M := by simpa using hm
      rw [this, hM] at hk; cases hk
    refine h.bk.touch ht (nM h.bk.hg) (fun k hk => ?_) (fun k hk => ?_)
    · obtain ⟨c, hc⟩ := ptrs_type h.bk.hk k hk
      exact nM hc
    · obtain ⟨c, hc⟩ := ptrs_type h.bk.hv k hk
      exact nM hc
  obtain ⟨lb, _, e1, _, hlb, _⟩ := h.hl.at_ (j := viewNo at_ ps.length) (x := ptr b) (by rw [List.getElem?_map, hb]; rfl)
  obtain ⟨mb, _, e2, _, hmb, _⟩ := h.hm.at_ (j := viewNo at_ ps.length) (x := ptr c) (by rw [List.getElem?_map, hc]; rfl)
  rw [List.length_map, h.ll] at e1
  rw [List.length_map, h.lm] at e2
  cases e1
  cases e2
  unfold ptr at hlb hmb
  have _hn := hN
  have n1 := h.n1
  have n2 := h.n2
  have H := Lib.hid h
  have HF := Lib.hid hf
  have clb := cell_old t0 hlb
  have cmb := cell_old t0 hmb
  have HT0 := Lib.hid t0
  have XB : Hid (∀ (j : Nat) v, (#[.int .i64 6, .int .i64 at_, .int .i64 num, .string key, .string val] : Array Value)[j]? = some v → (w.alloc (.cells #[.int .i64 6, .int .i64 at_, .int .i64 num, .string key, .string val] 34)).cell? ⟨w.heap.size, j, none⟩ = some v) := fun j v hj => (cell_of_row _ _ j _ _ _ (heap_alloc_new w _)).trans hj
  clear t0 hlb hmb
  have hps : (p ++ key).size = p.size + key.size := by
    show (tl (p ++ key)).length = _
    rw [tl_append, List.length_append]; rfl
  have HL : Hid (OwnVals w base 24 (.slice (some ⟨lb, 0, none⟩) ps.length lcap) (ls.map ptr)) := h.hl.high fun k hk => hown k (by unfold own17; simp only [List.mem_cons, List.mem_append]; exact .inr (.inr (.inr (.inl hk))))
  have HM : Hid (OwnVals w base 27 (.slice (some ⟨mb, 0, none⟩) ps.length mcap) (ms.map ptr)) := h.hm.high fun k hk => hown k (by unfold own17; simp only [List.mem_cons, List.mem_append]; exact .inr (.inr (.inr (.inr (.inl hk)))))
  have HOWN := Lib.hid hown
  have HB := Lib.hid hbase
  have LL : Hid ((ls.map ptr).length = ps.length) := by rw [List.length_map]; exact h.ll
  have LM : Hid ((ms.map ptr).length = ps.length) := by rw [List.length_map]; exact h.lm
  have HWR := Lib.hid h.hW
  have nWl : Hid (W ≠ lb) := by
    obtain ⟨c, hc⟩ := ptrs_type h.hl lb (by simp [Value.ownBlock])
    rintro rfl
    rw [h.hW] at hc; cases hc
  have nWm : Hid (W ≠ mb) := by
    obtain ⟨c, hc⟩ := ptrs_type h.hm mb (by simp [Value.ownBlock])
    rintro rfl
    rw [h.hW] at hc; cases hc
  have nmW : Hid (mb ≠ W) := fun e => nWm.out e.symm
  have nlm : Hid (mb ≠ lb) := by
    obtain ⟨c, hc⟩ := ptrs_type h.hl lb (by simp [Value.ownBlock])
    obtain ⟨c2, hc2⟩ := ptrs_type h.hm mb (by simp [Value.ownBlock])
    rintro rfl
    rw [hc] at hc2; cases hc2
  have C1 : Hid (w.cell? ⟨W, 1, none⟩ = some (.slice (some ⟨mb, 0, none⟩) ps.length mcap)) := ((cell_of_row w W 1 _ _ _ h.hW).trans (by simp) : w.cell? ⟨W, 1, none⟩ = some (.slice (some ⟨mb, 0, none⟩) ps.length mcap))
  have C0 : Hid (w.cell? ⟨W, 0, none⟩ = some (.slice (some ⟨lb, 0, none⟩) ps.length lcap)) := ((cell_of_row w W 0 _ _ _ h.hW).trans (by simp) : w.cell? ⟨W, 0, none⟩ = some (.slice (some ⟨lb, 0, none⟩) ps.length lcap))
  have hbig := hbig p hpm hp
  have CV : Hid (∀ W', Tch [] w W' → Calls Try.prog 11 #[.pointer (some ⟨b, 0, none⟩), .string key] W' fun e w' => e = .returned (.tuple #[.pointer none, .int .i64 2]) ∧ Tch [] W' w') := fun W' ht => (vsub_any (hV.touch ht (by simp)) hpp key hf.key).mono fun e w' ⟨h1, h2⟩ => ⟨h2.elim (·.2) fun h => absurd hbig (by have := h.1; omega), h1⟩
  have CR : Hid (∀ W', Tch [] w W' → Calls Try.prog 23 #[.pointer (some ⟨c, 0, none⟩), .string key] W' fun e w' => e = .returned (.tuple #[.pointer none, .int .i64 2]) ∧ Tch [] W' w') := fun W' ht => (rsub_any (hR.touch ht (by simp)) hpp key hf.key).mono fun e w' ⟨h1, h2⟩ => ⟨h2.elim (·.2) fun h => absurd hbig (by have := h.1; omega), h1⟩
  clear hbig
  have HPM := Lib.hid hpm
  generalize hnn : ps.length = n at *
  have HNN := Lib.hid hnn
  generalize viewNo at_ n = i at *
  clear _hn hbase hown hps h hN hf hV hR hag hp hc hb hpm hnn hA hB nbM ncM nwM bkM
  go_enter Try.func7, Try.ntmps7
  go_wp2_with fail
  (refine wp_region_quiet_lit (by kernel_rfl) (by kernel_rfl) ?_; (repeat (first | fail | go_big_quiet_step (fail))); refine wpQuiet_nil ?_; intro _ hw'; obtain ⟨nq, hw''⟩ := hw'; subst hw'')
  go_wp2_with (first | (go_at_call 11; refine (CV.out _ (HT0.out.trans (tch_drewN _ _))).mono ?_; rintro e w1 ⟨rfl, t1⟩; have d3 := cell_old ((tch_drewN _ _).trans t1) (XB.out 3 _ rfl); have HT1 := Lib.hid ((HT0.out.trans (tch_drewN _ _)).trans t1);  clear t1 CV) | (go_at_call 23; refine (CR.out _ HT1.out).mono ?_; rintro e w2 ⟨rfl, t2⟩; have HT2 := Lib.hid (HT1.out.trans t2);  clear t2 CR))
  go_ret
  exact ⟨rfl, (H.out.same HT2.out).base HB.out HOWN.out⟩
set_option maxRecDepth 20000 in
set_option maxHeartbeats 2000000 in
theorem does17_6b {w : World} {W X M g : Nat} {lv mv kv vv : Value} {ls ms : List Nat} {ps : List ByteArray} {A B : List Kv} {N : Nat} (h : World17 w W X M g lv mv kv vv ls ms ps A B N) (hN : N < 100000) (o : OpV17) (hf : o.Fits) (hw : o.what = 6) {base : Nat} (hbase : base ≤ w.heap.size) (hown : ∀ k ∈ own17 W M g lv mv kv vv, base ≤ k) (hbig : ∀ p ∈ ps, ps[viewNo o.at_ ps.length]? = some p → p.size + o.key.size ≤ 100) (h12 : 12 ≤ ps.length) :
    Calls Try.prog 7 #[.pointer (some ⟨W, 0, none⟩), .agg o.cells] w fun e w' => e = .returned (.bool true) ∧ OutB base w W X M g lv mv kv vv N w' := by
  obtain ⟨what, at_, num, key, val⟩ := o
  simp only at hw hbig
  subst hw
  unfold OpV17.cells
  simp only
  have hc := h.hl.cap_
  rw [List.length_map, h.ll] at hc
  obtain ⟨la, lcap, rfl, _, _⟩ := hc
  have hc := h.hm.cap_
  rw [List.length_map, h.lm] at hc
  obtain ⟨ma, mcap, rfl, _, _⟩ := hc
  have t0 : Tch [] w (w.alloc (.cells #[.int .i64 6, .int .i64 at_, .int .i64 num, .string key, .string val] 34)) := (Tch.refl _ _).alloc _
  have cW0 := cell_old t0 ((cell_of_row w W 0 _ _ _ h.hW).trans (by simp) : w.cell? ⟨W, 0, none⟩ = some (.slice la ps.length lcap))
  have cW1 := cell_old t0 ((cell_of_row w W 1 _ _ _ h.hW).trans (by simp) : w.cell? ⟨W, 1, none⟩ = some (.slice ma ps.length mcap))
  obtain ⟨i1, i2, i3, i4⟩ := viewNo_spec at_ h.n1
  obtain ⟨b, hb⟩ : ∃ b, ls[viewNo at_ ps.length]? = some b := ⟨_, List.getElem?_eq_getElem (by rw [h.ll]; exact i1)⟩
  obtain ⟨c, hc⟩ : ∃ c, ms[viewNo at_ ps.length]? = some c := ⟨_, List.getElem?_eq_getElem (by rw [h.lm]; exact i1)⟩
  obtain ⟨p, hp⟩ : ∃ p, ps[viewNo at_ ps.length]? = some p := ⟨_, List.getElem?_eq_getElem i1⟩
  have hV := h.views _ b p hb hp
  have hR := h.twins _ c p hc hp
  have hpm := List.mem_of_getElem? hp
  have hpp := h.pp p hpm
  have hag := h.ag p hpm
  have hA := h.mem.up
  have hB := h.bk.up
  have nbM : b ∉ [M] := by
    obtain ⟨es, clk, hM, _⟩ := h.mem.hM
    intro hm
    have : b = M := by simpa using hm
    unfold ViewAt at hV
    rw [this, hM] at hV; cases hV
  have ncM : c ∉ [M] := by
    obtain ⟨es, clk, hM, _⟩ := h.mem.hM
    intro hm
    have : c = M := by simpa using hm
    unfold RViewAt at hR
    rw [this, hM] at hR; cases hR
  have nwM : w.heap.size ∉ [M] := by
    obtain ⟨es, clk, hM, _⟩ := h.mem.hM
    intro hm
    have : w.heap.size = M := by simpa using hm
    exact ne_size hM this.symm
  have bkM : ∀ W', Tch [M] w W' → BookAt W' g kv vv B := fun W' ht => by
    obtain ⟨es, clk, hM, _⟩ := h.mem.hM
    have nM : ∀ {k : Nat} {c : Array Value} {e : TypeId}, w.heap[k]? = some (.cells c e) → k ∉ [M] := fun {k c e} hk hm => by
      have : k = M := by simpa using hm
      rw [this, hM] at hk; cases hk
    refine h.bk.touch ht (nM h.bk.hg) (fun k hk => ?_) (fun k hk => ?_)
    · obtain ⟨c, hc⟩ := ptrs_type h.bk.hk k hk
      exact nM hc
    · obtain ⟨c, hc⟩ := ptrs_type h.bk.hv k hk
      exact nM hc
  obtain ⟨lb, _, e1, _, hlb, _⟩ := h.hl.at_ (j := viewNo at_ ps.length) (x := ptr b) (by rw [List.getElem?_map, hb]; rfl)
  obtain ⟨mb, _, e2, _, hmb, _⟩ := h.hm.at_ (j := viewNo at_ ps.length) (x := ptr c) (by rw [List.getElem?_map, hc]; rfl)
  rw [List.length_map, h.ll] at e1
  rw [List.length_map, h.lm] at e2
  cases e1
  cases e2
  unfold ptr at hlb hmb
  have _hn := hN
  have n1 := h.n1
  have n2 := h.n2
  have H := Lib.hid h
  have HF := Lib.hid hf
  have clb := cell_old t0 hlb
  have cmb := cell_old t0 hmb
  have HT0 := Lib.hid t0
  have XB : Hid (∀ (j : Nat) v, (#[.int .i64 6, .int .i64 at_, .int .i64 num, .string key, .string val] : Array Value)[j]? = some v → (w.alloc (.cells #[.int .i64 6, .int .i64 at_, .int .i64 num, .string key, .string val] 34)).cell? ⟨w.heap.size, j, none⟩ = some v) := fun j v hj => (cell_of_row _ _ j _ _ _ (heap_alloc_new w _)).trans hj
  clear t0 hlb hmb
  have hps : (p ++ key).size = p.size + key.size := by
    show (tl (p ++ key)).length = _
    rw [tl_append, List.length_append]; rfl
  have HL : Hid (OwnVals w base 24 (.slice (some ⟨lb, 0, none⟩) ps.length lcap) (ls.map ptr)) := h.hl.high fun k hk => hown k (by unfold own17; simp only [List.mem_cons, List.mem_append]; exact .inr (.inr (.inr (.inl hk))))
  have HM : Hid (OwnVals w base 27 (.slice (some ⟨mb, 0, none⟩) ps.length mcap) (ms.map ptr)) := h.hm.high fun k hk => hown k (by unfold own17; simp only [List.mem_cons, List.mem_append]; exact .inr (.inr (.inr (.inr (.inl hk)))))
  have HOWN := Lib.hid hown
  have HB := Lib.hid hbase
  have LL : Hid ((ls.map ptr).length = ps.length) := by rw [List.length_map]; exact h.ll
  have LM : Hid ((ms.map ptr).length = ps.length) := by rw [List.length_map]; exact h.lm
  have HWR := Lib.hid h.hW
  have nWl : Hid (W ≠ lb) := by
    obtain ⟨c, hc⟩ := ptrs_type h.hl lb (by simp [Value.ownBlock])
    rintro rfl
    rw [h.hW] at hc; cases hc
  have nWm : Hid (W ≠ mb) := by
    obtain ⟨c, hc⟩ := ptrs_type h.hm mb (by simp [Value.ownBlock])
    rintro rfl
    rw [h.hW] at hc; cases hc
  have nmW : Hid (mb ≠ W) := fun e => nWm.out e.symm
  have nlm : Hid (mb ≠ lb) := by
    obtain ⟨c, hc⟩ := ptrs_type h.hl lb (by simp [Value.ownBlock])
    obtain ⟨c2, hc2⟩ := ptrs_type h.hm mb (by simp [Value.ownBlock])
    rintro rfl
    rw [hc] at hc2; cases hc2
  have C1 : Hid (w.cell? ⟨W, 1, none⟩ = some (.slice (some ⟨mb, 0, none⟩) ps.length mcap)) := ((cell_of_row w W 1 _ _ _ h.hW).trans (by simp) : w.cell? ⟨W, 1, none⟩ = some (.slice (some ⟨mb, 0, none⟩) ps.length mcap))
  have C0 : Hid (w.cell? ⟨W, 0, none⟩ = some (.slice (some ⟨lb, 0, none⟩) ps.length lcap)) := ((cell_of_row w W 0 _ _ _ h.hW).trans (by simp) : w.cell? ⟨W, 0, none⟩ = some (.slice (some ⟨lb, 0, none⟩) ps.length lcap))
  have hbig := hbig p hpm hp
  have HS : Hid ((p ++ key).size ≤ 100) := by rw [hps]; exact hbig
  have CV : Hid (∀ W', Tch [] w W' → Calls Try.prog 11 #[.pointer (some ⟨b, 0, none⟩), .string key] W' fun e w' => ∃ g, e = .returned (.tuple #[.pointer (some ⟨g, 0, none⟩), .int .i64 0]) ∧ Tch [] W' w' ∧ ViewAt w' g X (p ++ key) ∧ W'.heap.size ≤ g) := fun W' ht => (vsub_any (hV.touch ht (by simp)) hpp key hf.key).mono fun e w' ⟨h1, h2⟩ => h2.elim (fun h => absurd hbig (by have := h.1; omega)) fun ⟨_, g, e1, h3, h4⟩ => ⟨g, e1, h1, h3, h4⟩
  have CR : Hid (∀ W', Tch [] w W' → Calls Try.prog 23 #[.pointer (some ⟨c, 0, none⟩), .string key] W' fun e w' => ∃ x, e = .returned (.tuple #[.pointer (some ⟨x, 0, none⟩), .int .i64 0]) ∧ Tch [] W' w' ∧ RViewAt w' x g (p ++ key) ∧ W'.heap.size ≤ x) := fun W' ht => (rsub_any (hR.touch ht (by simp)) hpp key hf.key).mono fun e w' ⟨h1, h2⟩ => h2.elim (fun h => absurd hbig (by have := h.1; omega)) fun ⟨_, g, e1, h3, h4⟩ => ⟨g, e1, h1, h3, h4⟩
  clear hbig
  have HPM := Lib.hid hpm
  generalize hnn : ps.length = n at *
  have HNN := Lib.hid hnn
  generalize viewNo at_ n = i at *
  clear _hn hbase hown hps h hN hf hV hR hag hp hc hb hpm hnn hA hB nbM ncM nwM bkM
  go_enter Try.func7, Try.ntmps7
  go_wp2_with fail
  (refine wp_region_quiet_lit (by kernel_rfl) (by kernel_rfl) ?_; (repeat (first | fail | go_big_quiet_step (fail))); refine wpQuiet_nil ?_; intro _ hw'; obtain ⟨nq, hw''⟩ := hw'; subst hw'')
  have h12 : ¬ ((n : Int) < 12) := by omega
  go_wp2_with (first | (go_at_call 11; refine (CV.out _ (HT0.out.trans (tch_drewN _ _))).mono ?_; rintro e w1 ⟨x, rfl, t1, hx1, hx2⟩; have d3 := cell_old ((tch_drewN _ _).trans t1) (XB.out 3 _ rfl); have HT1 := Lib.hid ((HT0.out.trans (tch_drewN _ _)).trans t1); have HX1 := Lib.hid hx1; have HX2 : Hid (w.heap.size ≤ x) := Nat.le_trans (HT0.out.trans (tch_drewN _ _)).size hx2; clear hx1 hx2; clear t1 CV) | (go_at_call 23; refine (CR.out _ HT1.out).mono ?_; rintro e w2 ⟨y, rfl, t2, hy1, hy2⟩; have HT2 := Lib.hid (HT1.out.trans t2); have HX3 := Lib.hid (HX1.out.touch t2 (by simp)); have HY1 := Lib.hid hy1; have HY2 : Hid (w.heap.size ≤ y) := Nat.le_trans HT1.out.size hy2; clear hy1 hy2;  clear t2 CR))
  go_ret
  exact ⟨rfl, (H.out.same HT2.out).base HB.out HOWN.out⟩
set_option maxRecDepth 20000 in
set_option maxHeartbeats 2000000 in
theorem does17_6c {w : World} {W X M g : Nat} {lv mv kv vv : Value} {ls ms : List Nat} {ps : List ByteArray} {A B : List Kv} {N : Nat} (h : World17 w W X M g lv mv kv vv ls ms ps A B N) (hN : N < 100000) (o : OpV17) (hf : o.Fits) (hw : o.what = 6) {base : Nat} (hbase : base ≤ w.heap.size) (hown : ∀ k ∈ own17 W M g lv mv kv vv, base ≤ k) (hbig : ∀ p ∈ ps, ps[viewNo o.at_ ps.length]? = some p → p.size + o.key.size ≤ 100) (h12 : ps.length < 12) :
    Calls Try.prog 7 #[.pointer (some ⟨W, 0, none⟩), .agg o.cells] w fun e w' => e = .returned (.bool true) ∧ OutB base w W X M g lv mv kv vv N w' := by
  obtain ⟨what, at_, num, key, val⟩ := o
  simp only at hw hbig
  subst hw
  unfold OpV17.cells
  simp only
  have hc := h.hl.cap_
  rw [List.length_map, h.ll] at hc
  obtain ⟨la, lcap, rfl, _, _⟩ := hc
  have hc := h.hm.cap_
  rw [List.length_map, h.lm] at hc
  obtain ⟨ma, mcap, rfl, _, _⟩ := hc
  have t0 : Tch [] w (w.alloc (.cells #[.int .i64 6, .int .i64 at_, .int .i64 num, .string key, .string val] 34)) := (Tch.refl _ _).alloc _
  have cW0 := cell_old t0 ((cell_of_row w W 0 _ _ _ h.hW).trans (by simp) : w.cell? ⟨W, 0, none⟩ = some (.slice la ps.length lcap))
  have cW1 := cell_old t0 ((cell_of_row w W 1 _ _ _ h.hW).trans (by simp) : w.cell? ⟨W, 1, none⟩ = some (.slice ma ps.length mcap))
  obtain ⟨i1, i2, i3, i4⟩ := viewNo_spec at_ h.n1
  obtain ⟨b, hb⟩ : ∃ b, ls[viewNo at_ ps.length]? = some b := ⟨_, List.getElem?_eq_getElem (by rw [h.ll]; exact i1)⟩
  obtain ⟨c, hc⟩ : ∃ c, ms[viewNo at_ ps.length]? = some c := ⟨_, List.getElem?_eq_getElem (by rw [h.lm]; exact i1)⟩
  obtain ⟨p, hp⟩ : ∃ p, ps[viewNo at_ ps.length]? = some p := ⟨_, List.getElem?_eq_getElem i1⟩
  have hV := h.views _ b p hb hp
  have hR := h.twins _ c p hc hp
  have hpm := List.mem_of_getElem? hp
  have hpp := h.pp p hpm
  have hag := h.ag p hpm
  have hA := h.mem.up
  have hB := h.bk.up
  have nbM : b ∉ [M] := by
    obtain ⟨es, clk, hM, _⟩ := h.mem.hM
    intro hm
    have : b = M := by simpa using hm
    unfold ViewAt at hV
    rw [this, hM] at hV; cases hV
  have ncM : c ∉ [M] := by
    obtain ⟨es, clk, hM, _⟩ := h.mem.hM
    intro hm
    have : c = M := by simpa using hm
    unfold RViewAt at hR
    rw [this, hM] at hR; cases hR
  have nwM : w.heap.size ∉ [M] := by
    obtain ⟨es, clk, hM, _⟩ := h.mem.hM
    intro hm
    have : w.heap.size = M := by simpa using hm
    exact ne_size hM this.symm
  have bkM : ∀ W', Tch [M] w W' → BookAt W' g kv vv B := fun W' ht => by
    obtain ⟨es, clk, hM, _⟩ := h.mem.hM
    have nM : ∀ {k : Nat} {c : Array Value} {e : TypeId}, w.heap[k]? = some (.cells c e) → k ∉ [M] := fun {k c e} hk hm => by
      have : k = M := by simpa using hm
      rw [this, hM] at hk; cases hk
    refine h.bk.touch ht (nM h.bk.hg) (fun k hk => ?_) (fun k hk => ?_)
    · obtain ⟨c, hc⟩ := ptrs_type h.bk.hk k hk
      exact nM hc
    · obtain ⟨c, hc⟩ := ptrs_type h.bk.hv k hk
      exact nM hc
  obtain ⟨lb, _, e1, _, hlb, _⟩ := h.hl.at_ (j := viewNo at_ ps.length) (x := ptr b) (by rw [List.getElem?_map, hb]; rfl)
  obtain ⟨mb, _, e2, _, hmb, _⟩ := h.hm.at_ (j := viewNo at_ ps.length) (x := ptr c) (by rw [List.getElem?_map, hc]; rfl)
  rw [List.length_map, h.ll] at e1
  rw [List.length_map, h.lm] at e2
  cases e1
  cases e2
  unfold ptr at hlb hmb
  have _hn := hN
  have n1 := h.n1
  have n2 := h.n2
  have H := Lib.hid h
  have HF := Lib.hid hf
  have clb := cell_old t0 hlb
  have cmb := cell_old t0 hmb
  have HT0 := Lib.hid t0
  have XB : Hid (∀ (j : Nat) v, (#[.int .i64 6, .int .i64 at_, .int .i64 num, .string key, .string val] : Array Value)[j]? = some v → (w.alloc (.cells #[.int .i64 6, .int .i64 at_, .int .i64 num, .string key, .string val] 34)).cell? ⟨w.heap.size, j, none⟩ = some v) := fun j v hj => (cell_of_row _ _ j _ _ _ (heap_alloc_new w _)).trans hj
  clear t0 hlb hmb
  have hps : (p ++ key).size = p.size + key.size := by
    show (tl (p ++ key)).length = _
    rw [tl_append, List.length_append]; rfl
  have HL : Hid (OwnVals w base 24 (.slice (some ⟨lb, 0, none⟩) ps.length lcap) (ls.map ptr)) := h.hl.high fun k hk => hown k (by unfold own17; simp only [List.mem_cons, List.mem_append]; exact .inr (.inr (.inr (.inl hk))))
  have HM : Hid (OwnVals w base 27 (.slice (some ⟨mb, 0, none⟩) ps.length mcap) (ms.map ptr)) := h.hm.high fun k hk => hown k (by unfold own17; simp only [List.mem_cons, List.mem_append]; exact .inr (.inr (.inr (.inr (.inl hk)))))
  have HOWN := Lib.hid hown
  have HB := Lib.hid hbase
  have LL : Hid ((ls.map ptr).length = ps.length) := by rw [List.length_map]; exact h.ll
  have LM : Hid ((ms.map ptr).length = ps.length) := by rw [List.length_map]; exact h.lm
  have HWR := Lib.hid h.hW
  have nWl : Hid (W ≠ lb) := by
    obtain ⟨c, hc⟩ := ptrs_type h.hl lb (by simp [Value.ownBlock])
    rintro rfl
    rw [h.hW] at hc; cases hc
  have nWm : Hid (W ≠ mb) := by
    obtain ⟨c, hc⟩ := ptrs_type h.hm mb (by simp [Value.ownBlock])
    rintro rfl
    rw [h.hW] at hc; cases hc
  have nmW : Hid (mb ≠ W) := fun e => nWm.out e.symm
  have nlm : Hid (mb ≠ lb) := by
    obtain ⟨c, hc⟩ := ptrs_type h.hl lb (by simp [Value.ownBlock])
    obtain ⟨c2, hc2⟩ := ptrs_type h.hm mb (by simp [Value.ownBlock])
    rintro rfl
    rw [hc] at hc2; cases hc2
  have C1 : Hid (w.cell? ⟨W, 1, none⟩ = some (.slice (some ⟨mb, 0, none⟩) ps.length mcap)) := ((cell_of_row w W 1 _ _ _ h.hW).trans (by simp) : w.cell? ⟨W, 1, none⟩ = some (.slice (some ⟨mb, 0, none⟩) ps.length mcap))
  have C0 : Hid (w.cell? ⟨W, 0, none⟩ = some (.slice (some ⟨lb, 0, none⟩) ps.length lcap)) := ((cell_of_row w W 0 _ _ _ h.hW).trans (by simp) : w.cell? ⟨W, 0, none⟩ = some (.slice (some ⟨lb, 0, none⟩) ps.length lcap))
  have hbig := hbig p hpm hp
  have HS : Hid ((p ++ key).size ≤ 100) := by rw [hps]; exact hbig
  have CV : Hid (∀ W', Tch [] w W' → Calls Try.prog 11 #[.pointer (some ⟨b, 0, none⟩), .string key] W' fun e w' => ∃ g, e = .returned (.tuple #[.pointer (some ⟨g, 0, none⟩), .int .i64 0]) ∧ Tch [] W' w' ∧ ViewAt w' g X (p ++ key) ∧ W'.heap.size ≤ g) := fun W' ht => (vsub_any (hV.touch ht (by simp)) hpp key hf.key).mono fun e w' ⟨h1, h2⟩ => h2.elim (fun h => absurd hbig (by have := h.1; omega)) fun ⟨_, g, e1, h3, h4⟩ => ⟨g, e1, h1, h3, h4⟩
  have CR : Hid (∀ W', Tch [] w W' → Calls Try.prog 23 #[.pointer (some ⟨c, 0, none⟩), .string key] W' fun e w' => ∃ x, e = .returned (.tuple #[.pointer (some ⟨x, 0, none⟩), .int .i64 0]) ∧ Tch [] W' w' ∧ RViewAt w' x g (p ++ key) ∧ W'.heap.size ≤ x) := fun W' ht => (rsub_any (hR.touch ht (by simp)) hpp key hf.key).mono fun e w' ⟨h1, h2⟩ => h2.elim (fun h => absurd hbig (by have := h.1; omega)) fun ⟨_, g, e1, h3, h4⟩ => ⟨g, e1, h1, h3, h4⟩
  clear hbig
  have HPM := Lib.hid hpm
  generalize hnn : ps.length = n at *
  have HNN := Lib.hid hnn
  generalize viewNo at_ n = i at *
  clear _hn hbase hown hps h hN hf hV hR hag hp hc hb hpm hnn hA hB nbM ncM nwM bkM
  go_enter Try.func7, Try.ntmps7
  go_wp2_with fail
  (refine wp_region_quiet_lit (by kernel_rfl) (by kernel_rfl) ?_; (repeat (first | fail | go_big_quiet_step (fail))); refine wpQuiet_nil ?_; intro _ hw'; obtain ⟨nq, hw''⟩ := hw'; subst hw'')
  have h12 : (n : Int) < 12 := by omega
  go_wp2_with (first | (go_at_call 11; refine (CV.out _ (HT0.out.trans (tch_drewN _ _))).mono ?_; rintro e w1 ⟨x, rfl, t1, hx1, hx2⟩; have d3 := cell_old ((tch_drewN _ _).trans t1) (XB.out 3 _ rfl); have HT1 := Lib.hid ((HT0.out.trans (tch_drewN _ _)).trans t1); have HX1 := Lib.hid hx1; have HX2 : Hid (w.heap.size ≤ x) := Nat.le_trans (HT0.out.trans (tch_drewN _ _)).size hx2; clear hx1 hx2; clear t1 CV) | (go_at_call 23; refine (CR.out _ HT1.out).mono ?_; rintro e w2 ⟨y, rfl, t2, hy1, hy2⟩; have HT2 := Lib.hid (HT1.out.trans t2); have HX3 := Lib.hid (HX1.out.touch t2 (by simp)); have HY1 := Lib.hid hy1; have HY2 : Hid (w.heap.size ≤ y) := Nat.le_trans HT1.out.size hy2; clear hy1 hy2; have cz := cell_old HT2.out C0.out; clear t2 CR) | (at_builtin; (with_reducible refine wc_append_of (x := .tmp 217) (y := .tmp 219) (u := .slice (some ⟨w2.heap.size, 0, none⟩) 1 1) (m := [ptr x]) vwT (by decide) (HL.out.kept (HT2.out.alloc _) (by simp)) (by have := HT2.out.size; have := HB.out; simp; omega) (by have := LL.out; simp at this ⊢; omega) rfl rfl ?_ ?_ (one_valsV (x := ptr x) (cell_one_at _ _ _)) (one_ptr _) ?_); exact rfl; exact rfl; intro v3 w3 ho ht; generalize hl5 : (ls.map ptr ++ [ptr x]) = l5 at ho; obtain ⟨a5, c5, rfl, _, _⟩ := ho.cap_; have L5 := Lib.hid hl5; clear hl5; go_frame; have O5 := Lib.hid ho; have T3 : Hid (Tch [W, lb] w2 w3) := ((Tch.refl _ _).alloc _).trans (ht.mono (by simp [Value.ownBlock])); have HW3 := Lib.hid (ht.heap ((HT2.out.alloc _).heap HWR.out (by simp)) (by simp [Value.ownBlock]; exact nWl.out)); have cg0 := frozen_of_row w3 W 0 _ _ HW3.out; have HW4 := Lib.hid (heap_setCell_cells HW3.out 0 (.slice a5 l5.length c5)); have cy1 : (w3.setCell ⟨W, 0, none⟩ (.slice a5 l5.length c5)).cell? ⟨W, 1, none⟩ = some (.slice (some ⟨mb, 0, none⟩) n mcap) := (cell_of_row _ W 1 _ _ _ HW4.out).trans rfl; have cy0 : w3.cell? ⟨W, 1, none⟩ = some (.slice (some ⟨mb, 0, none⟩) n mcap) := (cell_of_row _ W 1 _ _ _ HW3.out).trans rfl; have cx0 : w3.cell? ⟨W, 0, none⟩ = some (.slice (some ⟨lb, 0, none⟩) n lcap) := (cell_of_row _ W 0 _ _ _ HW3.out).trans rfl; have T4 : Hid (Tch [W, lb] w2 (w3.setCell ⟨W, 0, none⟩ (.slice a5 l5.length c5))) := T3.out.setCell (by simp) _; clear ho ht) | (at_builtin; go_loud (with_reducible refine wc_append_of (x := .tmp 227) (y := .tmp 229) (u := .slice (some ⟨w3.heap.size, 0, none⟩) 1 1) (m := [ptr y]) rvT (by decide) (HM.out.kept (((HT2.out.mono (by simp)).trans T4.out).alloc _) (by simp [Value.ownBlock]; exact ⟨nmW.out, nlm.out⟩)) (by have := HT2.out.size; have := T4.out.size; have := HB.out; simp at *; omega) (by have := LM.out; simp at this ⊢; omega) rfl rfl ?_ ?_ ?_ (one_ptr _) ?_); exact rfl; exact rfl; exact one_valsV (x := ptr y) (cell_one_set _ _ _ _ _); intro v5 w5 ho ht; generalize hl6 : (ms.map ptr ++ [ptr y]) = l6 at ho; obtain ⟨a6, c6, rfl, _, _⟩ := ho.cap_; have L6 := Lib.hid hl6; clear hl6; go_frame; have O6 := Lib.hid ho; have T5 : Hid (Tch [mb] (w3.setCell ⟨W, 0, none⟩ (.slice a5 l5.length c5)) w5) := ((Tch.refl _ _).alloc _).trans (ht.mono (by simp [Value.ownBlock])); have HW5 := Lib.hid (T5.out.heap HW4.out (by simp; exact nWm.out)); have cg1 := frozen_of_row w5 W 1 _ _ HW5.out; have cw1 : w5.cell? ⟨W, 1, none⟩ = some (.slice (some ⟨mb, 0, none⟩) n mcap) := (cell_of_row _ W 1 _ _ _ HW5.out).trans rfl; clear ho ht))
  go_ret
  have t6 : Tch [W] w5 (w5.setCell ⟨W, 1, none⟩ (.slice a6 l6.length c6)) := (Tch.refl _ _).setCell (by simp) _
  have f5 : ∀ k, (Value.slice a5 l5.length c5).ownBlock = some k → k ∉ [W] ∧ k ∉ [mb] := fun k hk => by
    obtain ⟨c1, hc1⟩ := ptrs_type (O5.out.low (Nat.zero_le _)) k (by rw [hk]; simp)
    obtain ⟨c2, hc2⟩ := ptrs_type (HM.out.low (Nat.zero_le _)) mb (by simp [Value.ownBlock])
    have hc3 := T3.out.heap (HT2.out.heap hc2 (by simp)) (by simp; exact ⟨nmW.out, nlm.out⟩)
    have hc4 := HW3.out
    constructor
    · intro hm
      rw [List.mem_singleton.1 hm, hc4] at hc1
      simp at hc1
    · intro hm
      rw [List.mem_singleton.1 hm, hc3] at hc1
      simp at hc1
  have f6 : ∀ k, (Value.slice a6 l6.length c6).ownBlock = some k → k ∉ [W] := fun k hk => by
    obtain ⟨c1, hc1⟩ := ptrs_type (O6.out.low (Nat.zero_le _)) k (by rw [hk]; simp)
    have hc4 := HW5.out
    intro hm
    rw [List.mem_singleton.1 hm, hc4] at hc1
    simp at hc1
  refine ⟨rfl, H.out.subbed (lv' := .slice a5 l5.length c5) (mv' := .slice a6 l6.length c6) HPM.out HS.out (by rw [HNN.out]; omega) HT2.out HX2.out HX3.out HY2.out HY1.out ?_ ?_ ?_ ?_ HOWN.out⟩
  · refine ((T4.out.mono ?_).trans (T5.out.mono ?_)).trans (t6.mono ?_) <;> simp [Value.ownBlock]
  · have := heap_setCell_cells HW5.out 1 (.slice a6 l6.length c6)
    exact this
  · rw [L5.out]
    exact OwnVals.kept (OwnVals.kept (OwnVals.kept O5.out ((Tch.refl [W] _).setCell (by simp) (.slice a5 l5.length c5)) fun k hk => (f5 k hk).1) T5.out fun k hk => (f5 k hk).2) t6 fun k hk => (f5 k hk).1
  · rw [L6.out]
    exact OwnVals.kept O6.out t6 f6

/-- Any op but Sub. -/
theorem does17_out {w : World} {W X M g : Nat} {lv mv kv vv : Value} {ls ms : List Nat} {ps : List ByteArray} {A B : List Kv} {N : Nat} (h : World17 w W X M g lv mv kv vv ls ms ps A B N) (hN : N < 100000) (o : OpV17) (hf : o.Fits) (h6 : o.what ≠ 6) :
    Calls Try.prog 7 #[.pointer (some ⟨W, 0, none⟩), .agg o.cells] w fun e w' => e = .returned (.bool true) ∧ Out17 w W X M g lv mv kv vv ps A N w' := by
  by_cases h1 : o.what = 1
  · exact does17_1 h hN o hf h1
  by_cases h2 : o.what = 2
  · exact does17_2 h hN o hf h2
  by_cases h3 : o.what = 3
  · exact does17_3 h hN o hf h3
  by_cases h4 : o.what = 4
  · exact does17_4 h hN o hf h4
  by_cases h5 : o.what = 5
  · exact does17_5 h hN o hf h5
  exact does17_none h hN o hf (by omega)

/-- Any op. -/
theorem does17_any {w : World} {W X M g : Nat} {lv mv kv vv : Value} {ls ms : List Nat} {ps : List ByteArray} {A B : List Kv} {N : Nat} (h : World17 w W X M g lv mv kv vv ls ms ps A B N) (hN : N < 100000) (o : OpV17) (hf : o.Fits) {base : Nat} (hbase : base ≤ w.heap.size) (hown : ∀ k ∈ own17 W M g lv mv kv vv, base ≤ k) :
    Calls Try.prog 7 #[.pointer (some ⟨W, 0, none⟩), .agg o.cells] w fun e w' => e = .returned (.bool true) ∧ OutB base w W X M g lv mv kv vv N w' := by
  by_cases h6 : o.what = 6
  · obtain ⟨p, hp⟩ : ∃ p, ps[viewNo o.at_ ps.length]? = some p := ⟨_, List.getElem?_eq_getElem (viewNo_spec o.at_ h.n1).1⟩
    by_cases hbig : 100 < p.size + o.key.size
    · exact does17_6a h hN o hf h6 hbase hown fun q _ hq => by rw [hp] at hq; cases hq; exact hbig
    · by_cases h12 : ps.length < 12
      · exact does17_6c h hN o hf h6 hbase hown (fun q _ hq => by rw [hp] at hq; cases hq; omega) h12
      · exact does17_6b h hN o hf h6 hbase hown (fun q _ hq => by rw [hp] at hq; cases hq; omega) (by omega)
  · exact (does17_out h hN o hf h6).mono fun e w' ⟨h1, h2⟩ => ⟨h1, h2.base hbase hown⟩
end Go.Proofs.Ytcdgeeoajhbneaa
