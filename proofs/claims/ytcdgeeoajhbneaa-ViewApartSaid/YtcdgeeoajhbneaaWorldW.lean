/-
  Views and their twins: ciboriumlaw17's does.
-/
import Derived.Test.YtcdgeeoajhbneaaWorldV
namespace Go.Proofs.Ytcdgeeoajhbneaa
open Go.RowKit Go.Cib
/-- Which view an op speaks of. -/
def viewNo (at_ : Int) (n : Nat) : Nat := ((at_.tmod n + n).tmod n).toNat
theorem viewNo_spec (at_ : Int) {n : Nat} (hn : 1 ≤ n) : viewNo at_ n < n ∧ (at_.tmod n + n).tmod n = (viewNo at_ n : Int) ∧ -(n : Int) < at_.tmod n ∧ at_.tmod n < n := by
  have h1 : at_.tmod n < n := Int.tmod_lt_of_pos _ (by omega)
  have h2 : -(n : Int) < at_.tmod n := by
    have := Int.lt_tmod_of_pos at_ (b := (n : Int)) (by omega)
    omega
  have h3 : 0 ≤ (at_.tmod n + n).tmod n := Int.tmod_nonneg _ (by omega)
  have h4 : (at_.tmod n + n).tmod n < n := Int.tmod_lt_of_pos _ (by omega)
  unfold viewNo
  exact ⟨by omega, by omega, h2, h1⟩
theorem cell_kept {w w' : World} {X : List Nat} (h : Tch X w w') {b o : Nat} {v : Value} (hc : w.cell? ⟨b, o, none⟩ = some v) (hb : b ∉ X) : w'.cell? ⟨b, o, none⟩ = some v := by
  rw [World.cell?_of_block (w := w) (h.block _ (block_lt_of_cell hc) hb)]; exact hc
set_option maxRecDepth 20000 in
set_option maxHeartbeats 2000000 in
theorem does17_get {w : World} {W X M g : Nat} {lv mv kv vv : Value} {ls ms : List Nat} {ps : List ByteArray} {A B : List Kv} {N : Nat} (h : World17 w W X M g lv mv kv vv ls ms ps A B N) (hN : N < 100000) (o : OpV17) (hf : o.Fits) (hw : o.what = 1) :
    Calls Try.prog 7 #[.pointer (some ⟨W, 0, none⟩), .agg o.cells] w fun e w' => e = .returned (.bool true) ∧ Tch [] w w' := by
  obtain ⟨what, at_, num, key, val⟩ := o
  simp only at hw
  subst hw
  unfold OpV17.cells
  simp only
  have hc := h.hl.cap_
  rw [List.length_map, h.ll] at hc
  obtain ⟨la, lcap, rfl, _, _⟩ := hc
  have hc := h.hm.cap_
  rw [List.length_map, h.lm] at hc
  obtain ⟨ma, mcap, rfl, _, _⟩ := hc
  have t0 : Tch [] w (w.alloc (.cells #[.int .i64 1, .int .i64 at_, .int .i64 num, .string key, .string val] 34)) := (Tch.refl _ _).alloc _
  have cW0 := cell_old t0 ((cell_of_row w W 0 _ _ _ h.hW).trans (by simp) : w.cell? ⟨W, 0, none⟩ = some (.slice la ps.length lcap))
  have cW1 := cell_old t0 ((cell_of_row w W 1 _ _ _ h.hW).trans (by simp) : w.cell? ⟨W, 1, none⟩ = some (.slice ma ps.length mcap))
  obtain ⟨i1, i2, i3, i4⟩ := viewNo_spec at_ h.n1
  obtain ⟨b, hb⟩ : ∃ b, ls[viewNo at_ ps.length]? = some b := ⟨_, List.getElem?_eq_getElem (by rw [h.ll]; exact i1)⟩
  obtain ⟨c, hc⟩ : ∃ c, ms[viewNo at_ ps.length]? = some c := ⟨_, List.getElem?_eq_getElem (by rw [h.lm]; exact i1)⟩
  obtain ⟨p, hp⟩ : ∃ p, ps[viewNo at_ ps.length]? = some p := ⟨_, List.getElem?_eq_getElem i1⟩
  have hV := h.views _ b p hb hp
  have hR := h.twins _ c p hc hp
  have hpm := List.mem_of_getElem? hp
  have hpp := h.pp p hpm
  have hag := h.ag p hpm
  have hA := h.mem.up
  have hB := h.bk.up
  have nbM : b ∉ [M] := by
    obtain ⟨es, clk, hM, _⟩ := h.mem.hM
    intro hm
    have : b = M := by simpa using hm
    unfold ViewAt at hV
    rw [this, hM] at hV; cases hV
  have ncM : c ∉ [M] := by
    obtain ⟨es, clk, hM, _⟩ := h.mem.hM
    intro hm
    have : c = M := by simpa using hm
    unfold RViewAt at hR
    rw [this, hM] at hR; cases hR
  have nwM : w.heap.size ∉ [M] := by
    obtain ⟨es, clk, hM, _⟩ := h.mem.hM
    intro hm
    have : w.heap.size = M := by simpa using hm
    exact ne_size hM this.symm
  have bkM : ∀ W', Tch [M] w W' → BookAt W' g kv vv B := fun W' ht => by
    obtain ⟨es, clk, hM, _⟩ := h.mem.hM
    have nM : ∀ {k : Nat} {c : Array Value} {e : TypeId}, w.heap[k]? = some (.cells c e) → k ∉ [M] := fun {k c e} hk hm => by
      have : k = M := by simpa using hm
      rw [this, hM] at hk; cases hk
    refine h.bk.touch ht (nM h.bk.hg) (fun k hk => ?_) (fun k hk => ?_)
    · obtain ⟨c, hc⟩ := ptrs_type h.bk.hk k hk
      exact nM hc
    · obtain ⟨c, hc⟩ := ptrs_type h.bk.hv k hk
      exact nM hc
  obtain ⟨lb, _, e1, _, hlb, _⟩ := h.hl.at_ (j := viewNo at_ ps.length) (x := ptr b) (by rw [List.getElem?_map, hb]; rfl)
  obtain ⟨mb, _, e2, _, hmb, _⟩ := h.hm.at_ (j := viewNo at_ ps.length) (x := ptr c) (by rw [List.getElem?_map, hc]; rfl)
  rw [List.length_map, h.ll] at e1
  rw [List.length_map, h.lm] at e2
  cases e1
  cases e2
  unfold ptr at hlb hmb
  have _hn := hN
  have n1 := h.n1
  have n2 := h.n2
  have H := Lib.hid h
  have HF := Lib.hid hf
  have clb := cell_old t0 hlb
  have cmb := cell_old t0 hmb
  have HT0 := Lib.hid t0
  have XB : Hid (∀ (j : Nat) v, (#[.int .i64 1, .int .i64 at_, .int .i64 num, .string key, .string val] : Array Value)[j]? = some v → (w.alloc (.cells #[.int .i64 1, .int .i64 at_, .int .i64 num, .string key, .string val] 34)).cell? ⟨w.heap.size, j, none⟩ = some v) := fun j v hj => (cell_of_row _ _ j _ _ _ (heap_alloc_new w _)).trans hj
  clear t0 hlb hmb
  have CV : Hid (∀ W', Tch [] w W' → Calls Try.prog 12 #[.pointer (some ⟨b, 0, none⟩), .string key] W' fun e w' => e = .returned (.tuple #[.string (vget B p key).1, .bool (vget B p key).2.1, .int .i64 (vget B p key).2.2]) ∧ Tch [] W' w') := fun W' ht => by
    have := vget_any (hV.touch ht (by simp)) hpp (h.mem.old ht) key
    rwa [hag.vget key] at this
  have CR : Hid (∀ W', Tch [] w W' → Calls Try.prog 13 #[.pointer (some ⟨c, 0, none⟩), .string key] W' fun e w' => e = .returned (.tuple #[.string (vget B p key).1, .bool (vget B p key).2.1, .int .i64 (vget B p key).2.2]) ∧ Tch [] W' w') := fun W' ht => rget_any (hR.touch ht (by simp)) hpp (h.bk.old ht) key hf.key
  generalize (vget B p key).1 = s at *
  generalize (vget B p key).2.1 = bb at *
  generalize (vget B p key).2.2 = er at *
  have q1 : (s.toList == s.toList) = true := beq_self_eq_true _
  have q2 : (bb == bb) = true := beq_self_eq_true bb
  have q3 : (er == er) = true := beq_self_eq_true er
  generalize hnn : ps.length = n at *
  generalize viewNo at_ n = i at *
  clear _hn h hN hf hV hR hag hp hc hb hpm hnn hA hB nbM ncM nwM bkM
  go_enter Try.func7, Try.ntmps7
  go_wp2_with fail
  (refine wp_region_quiet_lit (by kernel_rfl) (by kernel_rfl) ?_; (repeat (first | fail | go_big_quiet_step (fail))); refine wpQuiet_nil ?_; intro _ hw'; obtain ⟨nq, hw''⟩ := hw'; subst hw'')
  go_wp2_with (first | (go_at_call 12; refine (CV.out _ (HT0.out.trans (tch_drewN _ _))).mono ?_; rintro e w1 ⟨rfl, t1⟩; have d3 := cell_old ((tch_drewN _ _).trans t1) (XB.out 3 _ rfl); have HT1 := Lib.hid ((HT0.out.trans (tch_drewN _ _)).trans t1); clear t1 CV) | (go_at_call 13; refine (CR.out _ HT1.out).mono ?_; rintro e w2 ⟨rfl, t2⟩; have HT2 := Lib.hid (HT1.out.trans t2); clear t2 CR))
  go_ret
  exact ⟨rfl, HT2.out⟩
theorem does17_1 {w : World} {W X M g : Nat} {lv mv kv vv : Value} {ls ms : List Nat} {ps : List ByteArray} {A B : List Kv} {N : Nat} (h : World17 w W X M g lv mv kv vv ls ms ps A B N) (hN : N < 100000) (o : OpV17) (hf : o.Fits) (hw : o.what = 1) :
    Calls Try.prog 7 #[.pointer (some ⟨W, 0, none⟩), .agg o.cells] w fun e w' => e = .returned (.bool true) ∧ Out17 w W X M g lv mv kv vv ps A N w' := (does17_get h hN o hf hw).mono fun _ _ ⟨h1, h2⟩ => ⟨h1, h.same h2⟩
set_option maxRecDepth 20000 in
set_option maxHeartbeats 2000000 in
theorem does17_2 {w : World} {W X M g : Nat} {lv mv kv vv : Value} {ls ms : List Nat} {ps : List ByteArray} {A B : List Kv} {N : Nat} (h : World17 w W X M g lv mv kv vv ls ms ps A B N) (hN : N < 100000) (o : OpV17) (hf : o.Fits) (hw : o.what = 2) :
    Calls Try.prog 7 #[.pointer (some ⟨W, 0, none⟩), .agg o.cells] w fun e w' => e = .returned (.bool true) ∧ Out17 w W X M g lv mv kv vv ps A N w' := by
  obtain ⟨what, at_, num, key, val⟩ := o
  simp only at hw
  subst hw
  unfold OpV17.cells
  simp only
  have hc := h.hl.cap_
  rw [List.length_map, h.ll] at hc
  obtain ⟨la, lcap, rfl, _, _⟩ := hc
  have hc := h.hm.cap_
  rw [List.length_map, h.lm] at hc
  obtain ⟨ma, mcap, rfl, _, _⟩ := hc
  have t0 : Tch [] w (w.alloc (.cells #[.int .i64 2, .int .i64 at_, .int .i64 num, .string key, .string val] 34)) := (Tch.refl _ _).alloc _
  have cW0 := cell_old t0 ((cell_of_row w W 0 _ _ _ h.hW).trans (by simp) : w.cell? ⟨W, 0, none⟩ = some (.slice la ps.length lcap))
  have cW1 := cell_old t0 ((cell_of_row w W 1 _ _ _ h.hW).trans (by simp) : w.cell? ⟨W, 1, none⟩ = some (.slice ma ps.length mcap))
  obtain ⟨i1, i2, i3, i4⟩ := viewNo_spec at_ h.n1
  obtain ⟨b, hb⟩ : ∃ b, ls[viewNo at_ ps.length]? = some b := ⟨_, List.getElem?_eq_getElem (by rw [h.ll]; exact i1)⟩
  obtain ⟨c, hc⟩ : ∃ c, ms[viewNo at_ ps.length]? = some c := ⟨_, List.getElem?_eq_getElem (by rw [h.lm]; exact i1)⟩
  obtain ⟨p, hp⟩ : ∃ p, ps[viewNo at_ ps.length]? = some p := ⟨_, List.getElem?_eq_getElem i1⟩
  have hV := h.views _ b p hb hp
  have hR := h.twins _ c p hc hp
  have hpm := List.mem_of_getElem? hp
  have hpp := h.pp p hpm
  have hag := h.ag p hpm
  have hA := h.mem.up
  have hB := h.bk.up
  have nbM : b ∉ [M] := by
    obtain ⟨es, clk, hM, _⟩ := h.mem.hM
    intro hm
    have : b = M := by simpa using hm
    unfold ViewAt at hV
    rw [this, hM] at hV; cases hV
  have ncM : c ∉ [M] := by
    obtain ⟨es, clk, hM, _⟩ := h.mem.hM
    intro hm
    have : c = M := by simpa using hm
    unfold RViewAt at hR
    rw [this, hM] at hR; cases hR
  have nwM : w.heap.size ∉ [M] := by
    obtain ⟨es, clk, hM, _⟩ := h.mem.hM
    intro hm
    have : w.heap.size = M := by simpa using hm
    exact ne_size hM this.symm
  have bkM : ∀ W', Tch [M] w W' → BookAt W' g kv vv B := fun W' ht => by
    obtain ⟨es, clk, hM, _⟩ := h.mem.hM
    have nM : ∀ {k : Nat} {c : Array Value} {e : TypeId}, w.heap[k]? = some (.cells c e) → k ∉ [M] := fun {k c e} hk hm => by
      have : k = M := by simpa using hm
      rw [this, hM] at hk; cases hk
    refine h.bk.touch ht (nM h.bk.hg) (fun k hk => ?_) (fun k hk => ?_)
    · obtain ⟨c, hc⟩ := ptrs_type h.bk.hk k hk
      exact nM hc
    · obtain ⟨c, hc⟩ := ptrs_type h.bk.hv k hk
      exact nM hc
  obtain ⟨lb, _, e1, _, hlb, _⟩ := h.hl.at_ (j := viewNo at_ ps.length) (x := ptr b) (by rw [List.getElem?_map, hb]; rfl)
  obtain ⟨mb, _, e2, _, hmb, _⟩ := h.hm.at_ (j := viewNo at_ ps.length) (x := ptr c) (by rw [List.getElem?_map, hc]; rfl)
  rw [List.length_map, h.ll] at e1
  rw [List.length_map, h.lm] at e2
  cases e1
  cases e2
  unfold ptr at hlb hmb
  have _hn := hN
  have n1 := h.n1
  have n2 := h.n2
  have H := Lib.hid h
  have HF := Lib.hid hf
  have clb := cell_old t0 hlb
  have cmb := cell_old t0 hmb
  have HT0 := Lib.hid t0
  have XB : Hid (∀ (j : Nat) v, (#[.int .i64 2, .int .i64 at_, .int .i64 num, .string key, .string val] : Array Value)[j]? = some v → (w.alloc (.cells #[.int .i64 2, .int .i64 at_, .int .i64 num, .string key, .string val] 34)).cell? ⟨w.heap.size, j, none⟩ = some v) := fun j v hj => (cell_of_row _ _ j _ _ _ (heap_alloc_new w _)).trans hj
  clear t0 hlb hmb
  have CV : Hid (∀ W', Tch [] w W' → Calls Try.prog 14 #[.pointer (some ⟨b, 0, none⟩), .string key, .string val] W' fun e w' => e = .returned (.int .i64 (vput B p key val).1) ∧ MemAt w' X M (vput A p key val |>.2) ∧ Tch [M] W' w') := fun W' ht => by
    have := vput_any (hV.touch ht (by simp)) hpp (h.mem.old ht) (Nat.lt_of_le_of_lt h.la hN) key val (Nat.le_trans hf.val (by decide))
    rwa [(hag.vput hA hB key val).2] at this
  have CR : Hid (∀ W', Tch [M] w W' → Calls Try.prog 15 #[.pointer (some ⟨c, 0, none⟩), .string key, .string val] W' fun e w' => e = .returned (.int .i64 (vput B p key val).1) ∧ BookOut W' g kv vv (vput B p key val |>.2) w') := fun W' ht => by
    exact rput_any (hR.touch ht ncM) hpp (bkM W' ht) (Nat.lt_of_le_of_lt h.lb hN) key val hf.key (Nat.le_trans hf.val (by decide))
  have HE : Hid (∀ w1 w2, MemAt w1 X M (vput A p key val).2 → Tch [M] w w1 → BookOut w1 g kv vv (vput B p key val).2 w2 → Out17 w W X M g (.slice (some ⟨lb, 0, none⟩) ps.length lcap) (.slice (some ⟨mb, 0, none⟩) ps.length mcap) kv vv ps A N w2) := fun w1 w2 m1 t1 t2 => h.wrote m1 t1 t2 (fun q hq => ((h.ag q hq).vput hA hB key val).1) (vput_sz hB h.sz) (Nat.le_trans (vput_len _ _ _ _) (Nat.succ_le_succ h.la)) (Nat.le_trans (vput_len _ _ _ _) (Nat.succ_le_succ h.lb)) (fun k hk => get_vput_other hA (hk p hpm))
  generalize (vput B p key val).1 = er at *
  generalize (vput A p key val).2 = A2 at *
  generalize (vput B p key val).2 = B2 at *
  have q3 : (er == er) = true := beq_self_eq_true er
  generalize hnn : ps.length = n at *
  generalize viewNo at_ n = i at *
  clear _hn h hN hf hV hR hp hc hb hpm hnn nbM ncM bkM hA hB hag
  go_enter Try.func7, Try.ntmps7
  go_wp2_with fail
  (refine wp_region_quiet_lit (by kernel_rfl) (by kernel_rfl) ?_; (repeat (first | fail | go_big_quiet_step (fail))); refine wpQuiet_nil ?_; intro _ hw'; obtain ⟨nq, hw''⟩ := hw'; subst hw'')
  have NWM := Lib.hid nwM
  go_wp2_with (first | (go_at_call 14; go_loud (refine (CV.out _ (HT0.out.trans (tch_drewN _ _))).mono ?_; rintro e w1 ⟨rfl, m1, t1⟩; have d3 := cell_kept t1 (cell_old (tch_drewN _ _) (XB.out 3 _ rfl)) NWM.out; have d4 := cell_kept t1 (cell_old (tch_drewN _ _) (XB.out 4 _ rfl)) NWM.out; have HM1 := Lib.hid m1; have HT1 := Lib.hid (((HT0.out.trans (tch_drewN _ _)).mono (by simp)).trans t1); clear t1 m1 CV)) | (go_at_call 15; go_loud (refine (CR.out _ HT1.out).mono ?_; rintro e w2 ⟨rfl, t2⟩; have HT2 := Lib.hid t2; clear t2 CR)))
  go_ret
  exact ⟨rfl, HE.out _ _ HM1.out HT1.out HT2.out⟩
set_option maxRecDepth 20000 in
set_option maxHeartbeats 2000000 in
theorem does17_3 {w : World} {W X M g : Nat} {lv mv kv vv : Value} {ls ms : List Nat} {ps : List ByteArray} {A B : List Kv} {N : Nat} (h : World17 w W X M g lv mv kv vv ls ms ps A B N) (hN : N < 100000) (o : OpV17) (hf : o.Fits) (hw : o.what = 3) :
    Calls Try.prog 7 #[.pointer (some ⟨W, 0, none⟩), .agg o.cells] w fun e w' => e = .returned (.bool true) ∧ Out17 w W X M g lv mv kv vv ps A N w' := by
  obtain ⟨what, at_, num, key, val⟩ := o
  simp only at hw
  subst hw
  unfold OpV17.cells
  simp only
  have hc := h.hl.cap_
  rw [List.length_map, h.ll] at hc
  obtain ⟨la, lcap, rfl, _, _⟩ := hc
  have hc := h.hm.cap_
  rw [List.length_map, h.lm] at hc
  obtain ⟨ma, mcap, rfl, _, _⟩ := hc
  have t0 : Tch [] w (w.alloc (.cells #[.int .i64 3, .int .i64 at_, .int .i64 num, .string key, .string val] 34)) := (Tch.refl _ _).alloc _
  have cW0 := cell_old t0 ((cell_of_row w W 0 _ _ _ h.hW).trans (by simp) : w.cell? ⟨W, 0, none⟩ = some (.slice la ps.length lcap))
  have cW1 := cell_old t0 ((cell_of_row w W 1 _ _ _ h.hW).trans (by simp) : w.cell? ⟨W, 1, none⟩ = some (.slice ma ps.length mcap))
  obtain ⟨i1, i2, i3, i4⟩ := viewNo_spec at_ h.n1
  obtain ⟨b, hb⟩ : ∃ b, ls[viewNo at_ ps.length]? = some b := ⟨_, List.getElem?_eq_getElem (by rw [h.ll]; exact i1)⟩
  obtain ⟨c, hc⟩ : ∃ c, ms[viewNo at_ ps.length]? = some c := ⟨_, List.getElem?_eq_getElem (by rw [h.lm]; exact i1)⟩
  obtain ⟨p, hp⟩ : ∃ p, ps[viewNo at_ ps.length]? = some p := ⟨_, List.getElem?_eq_getElem i1⟩
  have hV := h.views _ b p hb hp
  have hR := h.twins _ c p hc hp
  have hpm := List.mem_of_getElem? hp
  have hpp := h.pp p hpm
  have hag := h.ag p hpm
  have hA := h.mem.up
  have hB := h.bk.up
  have nbM : b ∉ [M] := by
    obtain ⟨es, clk, hM, _⟩ := h.mem.hM
    intro hm
    have : b = M := by simpa using hm
    unfold ViewAt at hV
    rw [this, hM] at hV; cases hV
  have ncM : c ∉ [M] := by
    obtain ⟨es, clk, hM, _⟩ := h.mem.hM
    intro hm
    have : c = M := by simpa using hm
    unfold RViewAt at hR
    rw [this, hM] at hR; cases hR
  have nwM : w.heap.size ∉ [M] := by
    obtain ⟨es, clk, hM, _⟩ := h.mem.hM
    intro hm
    have : w.heap.size = M := by simpa using hm
    exact ne_size hM this.symm
  have bkM : ∀ W', Tch [M] w W' → BookAt W' g kv vv B := fun W' ht => by
    obtain ⟨es, clk, hM, _⟩ := h.mem.hM
    have nM : ∀ {k : Nat} {c : Array Value} {e : TypeId}, w.heap[k]? = some (.cells c e) → k ∉ [M] := fun {k c e} hk hm => by
      have : k = M := by simpa using hm
      rw [this, hM] at hk; cases hk
    refine h.bk.touch ht (nM h.bk.hg) (fun k hk => ?_) (fun k hk => ?_)
    · obtain ⟨c, hc⟩ := ptrs_type h.bk.hk k hk
      exact nM hc
    · obtain ⟨c, hc⟩ := ptrs_type h.bk.hv k hk
      exact nM hc
  obtain ⟨lb, _, e1, _, hlb, _⟩ := h.hl.at_ (j := viewNo at_ ps.length) (x := ptr b) (by rw [List.getElem?_map, hb]; rfl)
  obtain ⟨mb, _, e2, _, hmb, _⟩ := h.hm.at_ (j := viewNo at_ ps.length) (x := ptr c) (by rw [List.getElem?_map, hc]; rfl)
  rw [List.length_map, h.ll] at e1
  rw [List.length_map, h.lm] at e2
  cases e1
  cases e2
  unfold ptr at hlb hmb
  have _hn := hN
  have n1 := h.n1
  have n2 := h.n2
  have H := Lib.hid h
  have HF := Lib.hid hf
  have clb := cell_old t0 hlb
  have cmb := cell_old t0 hmb
  have HT0 := Lib.hid t0
  have XB : Hid (∀ (j : Nat) v, (#[.int .i64 3, .int .i64 at_, .int .i64 num, .string key, .string val] : Array Value)[j]? = some v → (w.alloc (.cells #[.int .i64 3, .int .i64 at_, .int .i64 num, .string key, .string val] 34)).cell? ⟨w.heap.size, j, none⟩ = some v) := fun j v hj => (cell_of_row _ _ j _ _ _ (heap_alloc_new w _)).trans hj
  clear t0 hlb hmb
  have CV : Hid (∀ W', Tch [] w W' → Calls Try.prog 16 #[.pointer (some ⟨b, 0, none⟩), .string key] W' fun e w' => e = .returned (.tuple #[.bool (vdel B p key).1, .int .i64 (vdel B p key).2.1]) ∧ MemAt w' X M (vdel A p key |>.2.2) ∧ Tch [M] W' w') := fun W' ht => by
    have := vdel_any (hV.touch ht (by simp)) hpp (h.mem.old ht) key
    rwa [(hag.vdel1 key).1, (hag.vdel1 key).2] at this
  have CR : Hid (∀ W', Tch [M] w W' → Calls Try.prog 17 #[.pointer (some ⟨c, 0, none⟩), .string key] W' fun e w' => e = .returned (.tuple #[.bool (vdel B p key).1, .int .i64 (vdel B p key).2.1]) ∧ BookOut W' g kv vv (vdel B p key |>.2.2) w') := fun W' ht => by
    exact rdel_any (hR.touch ht ncM) hpp (bkM W' ht) key hf.key
  have HE : Hid (∀ w1 w2, MemAt w1 X M (vdel A p key).2.2 → Tch [M] w w1 → BookOut w1 g kv vv (vdel B p key).2.2 w2 → Out17 w W X M g (.slice (some ⟨lb, 0, none⟩) ps.length lcap) (.slice (some ⟨mb, 0, none⟩) ps.length mcap) kv vv ps A N w2) := fun w1 w2 m1 t1 t2 => h.wrote m1 t1 t2 (fun q hq => ((h.ag q hq).vdel hA hB key)) (vdel_sz hB h.sz) (Nat.le_succ_of_le (Nat.le_trans (vdel_len _ _ _) h.la)) (Nat.le_succ_of_le (Nat.le_trans (vdel_len _ _ _) h.lb)) (fun k hk => get_vdel_other hA (hk p hpm))
  generalize (vdel B p key).1 = bb at *
  generalize (vdel B p key).2.1 = er at *
  generalize (vdel A p key).2.2 = A2 at *
  generalize (vdel B p key).2.2 = B2 at *
  have q2 : (bb == bb) = true := beq_self_eq_true bb
  have q3 : (er == er) = true := beq_self_eq_true er
  generalize hnn : ps.length = n at *
  generalize viewNo at_ n = i at *
  clear _hn h hN hf hV hR hp hc hb hpm hnn nbM ncM bkM hA hB hag
  go_enter Try.func7, Try.ntmps7
  go_wp2_with fail
  (refine wp_region_quiet_lit (by kernel_rfl) (by kernel_rfl) ?_; (repeat (first | fail | go_big_quiet_step (fail))); refine wpQuiet_nil ?_; intro _ hw'; obtain ⟨nq, hw''⟩ := hw'; subst hw'')
  have NWM := Lib.hid nwM
  go_wp2_with (first | (go_at_call 16; go_loud (refine (CV.out _ (HT0.out.trans (tch_drewN _ _))).mono ?_; rintro e w1 ⟨rfl, m1, t1⟩; have d3 := cell_kept t1 (cell_old (tch_drewN _ _) (XB.out 3 _ rfl)) NWM.out; have HM1 := Lib.hid m1; have HT1 := Lib.hid (((HT0.out.trans (tch_drewN _ _)).mono (by simp)).trans t1); clear t1 m1 CV)) | (go_at_call 17; go_loud (refine (CR.out _ HT1.out).mono ?_; rintro e w2 ⟨rfl, t2⟩; have HT2 := Lib.hid t2; clear t2 CR)))
  go_ret
  exact ⟨rfl, HE.out _ _ HM1.out HT1.out HT2.out⟩
set_option maxRecDepth 20000 in
set_option maxHeartbeats 2000000 in
theorem does17_4 {w : World} {W X M g : Nat} {lv mv kv vv : Value} {ls ms : List Nat} {ps : List ByteArray} {A B : List Kv} {N : Nat} (h : World17 w W X M g lv mv kv vv ls ms ps A B N) (hN : N < 100000) (o : OpV17) (hf : o.Fits) (hw : o.what = 4) :
    Calls Try.prog 7 #[.pointer (some ⟨W, 0, none⟩), .agg o.cells] w fun e w' => e = .returned (.bool true) ∧ Out17 w W X M g lv mv kv vv ps A N w' := by
  obtain ⟨what, at_, num, key, val⟩ := o
  simp only at hw
  subst hw
  unfold OpV17.cells
  simp only
  have hc := h.hl.cap_
  rw [List.length_map, h.ll] at hc
  obtain ⟨la, lcap, rfl, _, _⟩ := hc
  have hc := h.hm.cap_
  rw [List.length_map, h.lm] at hc
  obtain ⟨ma, mcap, rfl, _, _⟩ := hc
  have t0 : Tch [] w (w.alloc (.cells #[.int .i64 4, .int .i64 at_, .int .i64 num, .string key, .string val] 34)) := (Tch.refl _ _).alloc _
  have cW0 := cell_old t0 ((cell_of_row w W 0 _ _ _ h.hW).trans (by simp) : w.cell? ⟨W, 0, none⟩ = some (.slice la ps.length lcap))
  have cW1 := cell_old t0 ((cell_of_row w W 1 _ _ _ h.hW).trans (by simp) : w.cell? ⟨W, 1, none⟩ = some (.slice ma ps.length mcap))
  obtain ⟨i1, i2, i3, i4⟩ := viewNo_spec at_ h.n1
  obtain ⟨b, hb⟩ : ∃ b, ls[viewNo at_ ps.length]? = some b := ⟨_, List.getElem?_eq_getElem (by rw [h.ll]; exact i1)⟩
  obtain ⟨c, hc⟩ : ∃ c, ms[viewNo at_ ps.length]? = some c := ⟨_, List.getElem?_eq_getElem (by rw [h.lm]; exact i1)⟩
  obtain ⟨p, hp⟩ : ∃ p, ps[viewNo at_ ps.length]? = some p := ⟨_, List.getElem?_eq_getElem i1⟩
  have hV := h.views _ b p hb hp
  have hR := h.twins _ c p hc hp
  have hpm := List.mem_of_getElem? hp
  have hpp := h.pp p hpm
  have hag := h.ag p hpm
  have hA := h.mem.up
  have hB := h.bk.up
  have nbM : b ∉ [M] := by
    obtain ⟨es, clk, hM, _⟩ := h.mem.hM
    intro hm
    have : b = M := by simpa using hm
    unfold ViewAt at hV
    rw [this, hM] at hV; cases hV
  have ncM : c ∉ [M] := by
    obtain ⟨es, clk, hM, _⟩ := h.mem.hM
    intro hm
    have : c = M := by simpa using hm
    unfold RViewAt at hR
    rw [this, hM] at hR; cases hR
  have nwM : w.heap.size ∉ [M] := by
    obtain ⟨es, clk, hM, _⟩ := h.mem.hM
    intro hm
    have : w.heap.size = M := by simpa using hm
    exact ne_size hM this.symm
  have bkM : ∀ W', Tch [M] w W' → BookAt W' g kv vv B := fun W' ht => by
    obtain ⟨es, clk, hM, _⟩ := h.mem.hM
    have nM : ∀ {k : Nat} {c : Array Value} {e : TypeId}, w.heap[k]? = some (.cells c e) → k ∉ [M] := fun {k c e} hk hm => by
      have : k = M := by simpa using hm
      rw [this, hM] at hk; cases hk
    refine h.bk.touch ht (nM h.bk.hg) (fun k hk => ?_) (fun k hk => ?_)
    · obtain ⟨c, hc⟩ := ptrs_type h.bk.hk k hk
      exact nM hc
    · obtain ⟨c, hc⟩ := ptrs_type h.bk.hv k hk
      exact nM hc
  obtain ⟨lb, _, e1, _, hlb, _⟩ := h.hl.at_ (j := viewNo at_ ps.length) (x := ptr b) (by rw [List.getElem?_map, hb]; rfl)
  obtain ⟨mb, _, e2, _, hmb, _⟩ := h.hm.at_ (j := viewNo at_ ps.length) (x := ptr c) (by rw [List.getElem?_map, hc]; rfl)
  rw [List.length_map, h.ll] at e1
  rw [List.length_map, h.lm] at e2
  cases e1
  cases e2
  unfold ptr at hlb hmb
  have _hn := hN
  have n1 := h.n1
  have n2 := h.n2
  have H := Lib.hid h
  have HF := Lib.hid hf
  have clb := cell_old t0 hlb
  have cmb := cell_old t0 hmb
  have HT0 := Lib.hid t0
  have XB : Hid (∀ (j : Nat) v, (#[.int .i64 4, .int .i64 at_, .int .i64 num, .string key, .string val] : Array Value)[j]? = some v → (w.alloc (.cells #[.int .i64 4, .int .i64 at_, .int .i64 num, .string key, .string val] 34)).cell? ⟨w.heap.size, j, none⟩ = some v) := fun j v hj => (cell_of_row _ _ j _ _ _ (heap_alloc_new w _)).trans hj
  clear t0 hlb hmb
  have CV : Hid (∀ W', Tch [] w W' → Calls Try.prog 18 #[.pointer (some ⟨b, 0, none⟩), .string key, .string val, .int .i64 num] W' fun e w' => Tch [] W' w' ∧ ∃ v, e = .returned (.tuple #[v, .int .i64 (if num < 0 then 2 else 0)]) ∧ OwnTexts w' W'.heap.size v (if num < 0 then [] else vlist B p key val num.toNat)) := fun W' ht => by
    have := vlist_any (hV.touch ht (by simp)) hpp (h.mem.old ht) key val hf.key hf.val num
    rwa [hag.vlist hA hB key val num.toNat] at this
  have CR : Hid (∀ W', Tch [] w W' → Calls Try.prog 19 #[.pointer (some ⟨c, 0, none⟩), .string key, .string val, .int .i64 num] W' fun e w' => Tch [] W' w' ∧ ∃ v, e = .returned (.tuple #[v, .int .i64 (if num < 0 then 2 else 0)]) ∧ OwnTexts w' W'.heap.size v (if num < 0 then [] else vlist B p key val num.toNat)) := fun W' ht => rlist_any (hR.touch ht (by simp)) hpp (h.bk.old ht) key val hf.key num
  have hlen : (if num < 0 then [] else vlist B p key val num.toNat).length ≤ 1000000 := by
    split
    · simp
    · unfold vlist
      rw [List.length_map]
      have h1 := length_listed B (p ++ key) (p ++ val) num.toNat
      have h2 := h.bk.len
      omega
  generalize (if num < 0 then [] else vlist B p key val num.toNat) = lst at *
  generalize (if num < 0 then (2 : Int) else 0) = er at *
  have q3 : (er == er) = true := beq_self_eq_true er
  have q4 : decide (lst = lst) = true := decide_eq_true rfl
  have HL := Lib.hid hlen
  clear hlen
  generalize hnn : ps.length = n at *
  generalize viewNo at_ n = i at *
  clear _hn h hN hf hV hR hag hp hc hb hpm hnn hA hB nbM ncM nwM bkM
  go_enter Try.func7, Try.ntmps7
  go_wp2_with fail
  (refine wp_region_quiet_lit (by kernel_rfl) (by kernel_rfl) ?_; (repeat (first | fail | go_big_quiet_step (fail))); refine wpQuiet_nil ?_; intro _ hw'; obtain ⟨nq, hw''⟩ := hw'; subst hw'')
  go_wp2_with (first | (go_at_call 18; go_loud (refine (CV.out _ (HT0.out.trans (tch_drewN _ _))).mono ?_; rintro e w1 ⟨t1, v1, rfl, o1⟩; have d2 := cell_old ((tch_drewN _ _).trans t1) (XB.out 2 _ rfl); have d3 := cell_old ((tch_drewN _ _).trans t1) (XB.out 3 _ rfl); have d4 := cell_old ((tch_drewN _ _).trans t1) (XB.out 4 _ rfl); have HT1 := Lib.hid ((HT0.out.trans (tch_drewN _ _)).trans t1); have HO1 := Lib.hid o1.valsV; obtain ⟨a1, n1, c1, rfl⟩ : ∃ a n c, v1 = .slice a n c := (by obtain ⟨a, c, e, _⟩ := HO1.out; exact ⟨a, _, c, e⟩); clear o1 t1 CV)) | (go_at_call 19; go_loud (refine (CR.out _ HT1.out).mono ?_; rintro e w2 ⟨t2, v2, rfl, o2⟩; have HT2 := Lib.hid (HT1.out.trans t2); have HO2 := Lib.hid o2.valsV; have HO3 := Lib.hid (HO1.out.later t2); obtain ⟨a2, n2, c2, rfl⟩ : ∃ a n c, v2 = .slice a n c := (by obtain ⟨a, c, e, _⟩ := HO2.out; exact ⟨a, _, c, e⟩); clear o2 t2 CR)) | (go_at_call 20; go_loud (refine (eqTexts_any HO3.out HO2.out HL.out HL.out).mono ?_; rintro e w3 ⟨rfl, t3⟩; rw [decide_eq_true (rfl : lst = lst)]; have HT3 := Lib.hid (HT2.out.trans t3); clear t3)))
  go_ret
  exact ⟨rfl, H.out.same HT3.out⟩
set_option maxRecDepth 20000 in
set_option maxHeartbeats 2000000 in
theorem does17_5 {w : World} {W X M g : Nat} {lv mv kv vv : Value} {ls ms : List Nat} {ps : List ByteArray} {A B : List Kv} {N : Nat} (h : World17 w W X M g lv mv kv vv ls ms ps A B N) (hN : N < 100000) (o : OpV17) (hf : o.Fits) (hw : o.what = 5) :
    Calls Try.prog 7 #[.pointer (some ⟨W, 0, none⟩), .agg o.cells] w fun e w' => e = .returned (.bool true) ∧ Out17 w W X M g lv mv kv vv ps A N w' := by
  obtain ⟨what, at_, num, key, val⟩ := o
  simp only at hw
  subst hw
  unfold OpV17.cells
  simp only
  have hc := h.hl.cap_
  rw [List.length_map, h.ll] at hc
  obtain ⟨la, lcap, rfl, _, _⟩ := hc
  have hc := h.hm.cap_
  rw [List.length_map, h.lm] at hc
  obtain ⟨ma, mcap, rfl, _, _⟩ := hc
  have t0 : Tch [] w (w.alloc (.cells #[.int .i64 5, .int .i64 at_, .int .i64 num, .string key, .string val] 34)) := (Tch.refl _ _).alloc _
  have cW0 := cell_old t0 ((cell_of_row w W 0 _ _ _ h.hW).trans (by simp) : w.cell? ⟨W, 0, none⟩ = some (.slice la ps.length lcap))
  have cW1 := cell_old t0 ((cell_of_row w W 1 _ _ _ h.hW).trans (by simp) : w.cell? ⟨W, 1, none⟩ = some (.slice ma ps.length mcap))
  obtain ⟨i1, i2, i3, i4⟩ := viewNo_spec at_ h.n1
  obtain ⟨b, hb⟩ : ∃ b, ls[viewNo at_ ps.length]? = some b := ⟨_, List.getElem?_eq_getElem (by rw [h.ll]; exact i1)⟩
  obtain ⟨c, hc⟩ : ∃ c, ms[viewNo at_ ps.length]? = some c := ⟨_, List.getElem?_eq_getElem (by rw [h.lm]; exact i1)⟩
  obtain ⟨p, hp⟩ : ∃ p, ps[viewNo at_ ps.length]? = some p := ⟨_, List.getElem?_eq_getElem i1⟩
  have hV := h.views _ b p hb hp
  have hR := h.twins _ c p hc hp
  have hpm := List.mem_of_getElem? hp
  have hpp := h.pp p hpm
  have hag := h.ag p hpm
  have hA := h.mem.up
  have hB := h.bk.up
  have nbM : b ∉ [M] := by
    obtain ⟨es, clk, hM, _⟩ := h.mem.hM
    intro hm
    have : b = M := by simpa using hm
    unfold ViewAt at hV
    rw [this, hM] at hV; cases hV
  have ncM : c ∉ [M] := by
    obtain ⟨es, clk, hM, _⟩ := h.mem.hM
    intro hm
    have : c = M := by simpa using hm
    unfold RViewAt at hR
    rw [this, hM] at hR; cases hR
  have nwM : w.heap.size ∉ [M] := by
    obtain ⟨es, clk, hM, _⟩ := h.mem.hM
    intro hm
    have : w.heap.size = M := by simpa using hm
    exact ne_size hM this.symm
  have bkM : ∀ W', Tch [M] w W' → BookAt W' g kv vv B := fun W' ht => by
    obtain ⟨es, clk, hM, _⟩ := h.mem.hM
    have nM : ∀ {k : Nat} {c : Array Value} {e : TypeId}, w.heap[k]? = some (.cells c e) → k ∉ [M] := fun {k c e} hk hm => by
      have : k = M := by simpa using hm
      rw [this, hM] at hk; cases hk
    refine h.bk.touch ht (nM h.bk.hg) (fun k hk => ?_) (fun k hk => ?_)
    · obtain ⟨c, hc⟩ := ptrs_type h.bk.hk k hk
      exact nM hc
    · obtain ⟨c, hc⟩ := ptrs_type h.bk.hv k hk
      exact nM hc
  obtain ⟨lb, _, e1, _, hlb, _⟩ := h.hl.at_ (j := viewNo at_ ps.length) (x := ptr b) (by rw [List.getElem?_map, hb]; rfl)
  obtain ⟨mb, _, e2, _, hmb, _⟩ := h.hm.at_ (j := viewNo at_ ps.length) (x := ptr c) (by rw [List.getElem?_map, hc]; rfl)
  rw [List.length_map, h.ll] at e1
  rw [List.length_map, h.lm] at e2
  cases e1
  cases e2
  unfold ptr at hlb hmb
  have _hn := hN
  have n1 := h.n1
  have n2 := h.n2
  have H := Lib.hid h
  have HF := Lib.hid hf
  have clb := cell_old t0 hlb
  have cmb := cell_old t0 hmb
  have HT0 := Lib.hid t0
  have XB : Hid (∀ (j : Nat) v, (#[.int .i64 5, .int .i64 at_, .int .i64 num, .string key, .string val] : Array Value)[j]? = some v → (w.alloc (.cells #[.int .i64 5, .int .i64 at_, .int .i64 num, .string key, .string val] 34)).cell? ⟨w.heap.size, j, none⟩ = some v) := fun j v hj => (cell_of_row _ _ j _ _ _ (heap_alloc_new w _)).trans hj
  clear t0 hlb hmb
  have hLL : vlist B p key ByteArray.empty (B.length + 1) = vlist A p key ByteArray.empty 2147483648 := by
    have h1 := h.bk.len
    rw [hag.vlist hA hB, vlist_all B p key ByteArray.empty 2147483648 (by omega), vlist_all B p key ByteArray.empty (B.length + 1) (by omega)]
  have CV : Hid (∀ W', Tch [] w W' → Calls Try.prog 21 #[.pointer (some ⟨b, 0, none⟩), .string key] W' fun e w' => e = .returned (.tuple #[.int .i64 (vlist A p key ByteArray.empty 2147483648).length, .int .i64 0]) ∧ MemAt w' X M (vclear A p (vlist A p key ByteArray.empty 2147483648)) ∧ Tch [M] W' w') := fun W' ht => by
    exact vclear_any (hV.touch ht (by simp)) hpp (h.mem.old ht) key hf.key
  have CR : Hid (∀ W', Tch [M] w W' → Calls Try.prog 22 #[.pointer (some ⟨c, 0, none⟩), .string key] W' fun e w' => e = .returned (.int .i64 (vlist A p key ByteArray.empty 2147483648).length) ∧ BookOut W' g kv vv (vclear B p (vlist A p key ByteArray.empty 2147483648)) w') := fun W' ht => by
    have := rclear_any (hR.touch ht ncM) hpp (bkM W' ht) h.sz key hf.key
    rwa [hLL] at this
  have HE : Hid (∀ w1 w2, MemAt w1 X M (vclear A p (vlist A p key ByteArray.empty 2147483648)) → Tch [M] w w1 → BookOut w1 g kv vv (vclear B p (vlist A p key ByteArray.empty 2147483648)) w2 → Out17 w W X M g (.slice (some ⟨lb, 0, none⟩) ps.length lcap) (.slice (some ⟨mb, 0, none⟩) ps.length mcap) kv vv ps A N w2) := fun w1 w2 m1 t1 t2 => h.wrote m1 t1 t2 (fun q hq => Agrees.vclear _ hA hB (h.ag q hq)) (fun e he => h.sz e (vclear_mem p _ hB he)) (Nat.le_succ_of_le (Nat.le_trans (vclear_len _ _ _) h.la)) (Nat.le_succ_of_le (Nat.le_trans (vclear_len _ _ _) h.lb)) (fun k hk => get_vclear_other (hk p hpm) _ hA)
  clear hLL
  generalize vclear A p (vlist A p key ByteArray.empty 2147483648) = A2 at *
  generalize vclear B p (vlist A p key ByteArray.empty 2147483648) = B2 at *
  generalize (vlist A p key ByteArray.empty 2147483648).length = len at *
  have q3 : ((len : Int) == (len : Int)) = true := beq_self_eq_true _
  generalize hnn : ps.length = n at *
  generalize viewNo at_ n = i at *
  clear _hn h hN hf hV hR hp hc hb hpm hnn nbM ncM bkM hA hB hag
  go_enter Try.func7, Try.ntmps7
  go_wp2_with fail
  (refine wp_region_quiet_lit (by kernel_rfl) (by kernel_rfl) ?_; (repeat (first | fail | go_big_quiet_step (fail))); refine wpQuiet_nil ?_; intro _ hw'; obtain ⟨nq, hw''⟩ := hw'; subst hw'')
  have NWM := Lib.hid nwM
  go_wp2_with (first | (go_at_call 21; go_loud (refine (CV.out _ (HT0.out.trans (tch_drewN _ _))).mono ?_; rintro e w1 ⟨rfl, m1, t1⟩; have d3 := cell_kept t1 (cell_old (tch_drewN _ _) (XB.out 3 _ rfl)) NWM.out; have HM1 := Lib.hid m1; have HT1 := Lib.hid (((HT0.out.trans (tch_drewN _ _)).mono (by simp)).trans t1); clear t1 m1 CV)) | (go_at_call 22; go_loud (refine (CR.out _ HT1.out).mono ?_; rintro e w2 ⟨rfl, t2⟩; have HT2 := Lib.hid t2; clear t2 CR)))
  go_ret
  exact ⟨rfl, HE.out _ _ HM1.out HT1.out HT2.out⟩
set_option maxRecDepth 20000 in
set_option maxHeartbeats 2000000 in
theorem does17_none {w : World} {W X M g : Nat} {lv mv kv vv : Value} {ls ms : List Nat} {ps : List ByteArray} {A B : List Kv} {N : Nat} (h : World17 w W X M g lv mv kv vv ls ms ps A B N) (hN : N < 100000) (o : OpV17) (hf : o.Fits) (hw : o.what < 1 ∨ 6 < o.what) :
    Calls Try.prog 7 #[.pointer (some ⟨W, 0, none⟩), .agg o.cells] w fun e w' => e = .returned (.bool true) ∧ Out17 w W X M g lv mv kv vv ps A N w' := by
  obtain ⟨what, at_, num, key, val⟩ := o
  simp only at hw
  unfold OpV17.cells
  simp only
  have hc := h.hl.cap_
  rw [List.length_map, h.ll] at hc
  obtain ⟨la, lcap, rfl, _, _⟩ := hc
  have hc := h.hm.cap_
  rw [List.length_map, h.lm] at hc
  obtain ⟨ma, mcap, rfl, _, _⟩ := hc
  have t0 : Tch [] w (w.alloc (.cells #[.int .i64 what, .int .i64 at_, .int .i64 num, .string key, .string val] 34)) := (Tch.refl _ _).alloc _
  have cW0 := cell_old t0 ((cell_of_row w W 0 _ _ _ h.hW).trans (by simp) : w.cell? ⟨W, 0, none⟩ = some (.slice la ps.length lcap))
  have cW1 := cell_old t0 ((cell_of_row w W 1 _ _ _ h.hW).trans (by simp) : w.cell? ⟨W, 1, none⟩ = some (.slice ma ps.length mcap))
  obtain ⟨i1, i2, i3, i4⟩ := viewNo_spec at_ h.n1
  obtain ⟨b, hb⟩ : ∃ b, ls[viewNo at_ ps.length]? = some b := ⟨_, List.getElem?_eq_getElem (by rw [h.ll]; exact i1)⟩
  obtain ⟨c, hc⟩ : ∃ c, ms[viewNo at_ ps.length]? = some c := ⟨_, List.getElem?_eq_getElem (by rw [h.lm]; exact i1)⟩
  obtain ⟨p, hp⟩ : ∃ p, ps[viewNo at_ ps.length]? = some p := ⟨_, List.getElem?_eq_getElem i1⟩
  have hV := h.views _ b p hb hp
  have hR := h.twins _ c p hc hp
  have hpm := List.mem_of_getElem? hp
  have hpp := h.pp p hpm
  have hag := h.ag p hpm
  have hA := h.mem.up
  have hB := h.bk.up
  have nbM : b ∉ [M] := by
    obtain ⟨es, clk, hM, _⟩ := h.mem.hM
    intro hm
    have : b = M := by simpa using hm
    unfold ViewAt at hV
    rw [this, hM] at hV; cases hV
  have ncM : c ∉ [M] := by
    obtain ⟨es, clk, hM, _⟩ := h.mem.hM
    intro hm
    have : c = M := by simpa using hm
    unfold RViewAt at hR
    rw [this, hM] at hR; cases hR
  have nwM : w.heap.size ∉ [M] := by
    obtain ⟨es, clk, hM, _⟩ := h.mem.hM
    intro hm
    have : w.heap.size = M := by simpa using hm
    exact ne_size hM this.symm
  have bkM : ∀ W', Tch [M] w W' → BookAt W' g kv vv B := fun W' ht => by
    obtain ⟨es, clk, hM, _⟩ := h.mem.hM
    have nM : ∀ {k : Nat} {c : Array Value} {e : TypeId}, w.heap[k]? = some (.cells c e) → k ∉ [M] := fun {k c e} hk hm => by
      have : k = M := by simpa using hm
      rw [this, hM] at hk; cases hk
    refine h.bk.touch ht (nM h.bk.hg) (fun k hk => ?_) (fun k hk => ?_)
    · obtain ⟨c, hc⟩ := ptrs_type h.bk.hk k hk
      exact nM hc
    · obtain ⟨c, hc⟩ := ptrs_type h.bk.hv k hk
      exact nM hc
  obtain ⟨lb, _, e1, _, hlb, _⟩ := h.hl.at_ (j := viewNo at_ ps.length) (x := ptr b) (by rw [List.getElem?_map, hb]; rfl)
  obtain ⟨mb, _, e2, _, hmb, _⟩ := h.hm.at_ (j := viewNo at_ ps.length) (x := ptr c) (by rw [List.getElem?_map, hc]; rfl)
  rw [List.length_map, h.ll] at e1
  rw [List.length_map, h.lm] at e2
  cases e1
  cases e2
  unfold ptr at hlb hmb
  have _hn := hN
  have n1 := h.n1
  have n2 := h.n2
  have H := Lib.hid h
  have HF := Lib.hid hf
  have clb := cell_old t0 hlb
  have cmb := cell_old t0 hmb
  have HT0 := Lib.hid t0
  have XB : Hid (∀ (j : Nat) v, (#[.int .i64 what, .int .i64 at_, .int .i64 num, .string key, .string val] : Array Value)[j]? = some v → (w.alloc (.cells #[.int .i64 what, .int .i64 at_, .int .i64 num, .string key, .string val] 34)).cell? ⟨w.heap.size, j, none⟩ = some v) := fun j v hj => (cell_of_row _ _ j _ _ _ (heap_alloc_new w _)).trans hj
  clear t0 hlb hmb
  have k1 : (what == 1) = false := beq_false_of_ne (by omega)
  have k2 : (what == 2) = false := beq_false_of_ne (by omega)
  have k3 : (what == 3) = false := beq_false_of_ne (by omega)
  have k4 : (what == 4) = false := beq_false_of_ne (by omega)
  have k5 : (what == 5) = false := beq_false_of_ne (by omega)
  have k6 : (what == 6) = false := beq_false_of_ne (by omega)
  generalize hnn : ps.length = n at *
  generalize viewNo at_ n = i at *
  clear _hn h hN hf hV hR hag hp hc hb hpm hnn hA hB nbM ncM nwM bkM
  go_enter Try.func7, Try.ntmps7
  go_wp2_with fail
  (refine wp_region_quiet_lit (by kernel_rfl) (by kernel_rfl) ?_; (repeat (first | fail | go_big_quiet_step (fail))); refine wpQuiet_nil ?_; intro _ hw'; obtain ⟨nq, hw''⟩ := hw'; subst hw'')
  go_wp2_with fail
  go_ret
  exact ⟨rfl, H.out.same (HT0.out.trans (tch_drewN _ _))⟩
end Go.Proofs.Ytcdgeeoajhbneaa
