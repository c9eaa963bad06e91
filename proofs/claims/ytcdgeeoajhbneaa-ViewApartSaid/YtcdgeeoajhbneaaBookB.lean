/-
  The document's book in memory: Set and Delete.
-/
import Derived.Test.YtcdgeeoajhbneaaBookA
namespace Go.Proofs.Ytcdgeeoajhbneaa
open Go.RowKit Go.Cib
theorem own_on {w wa wb : World} {B : Nat} {e : TypeId} {v : Value} {l : List Value} (T : Tch [] w wa) (h : OwnVals wa B e v l) (hB : w.heap.size ≤ B) (ht : Tch v.ownBlock.toList wa wb) : Tch [] w wb :=
  tch_own T ht fun k hk => Nat.le_trans hB (h.lt k hk).1
theorem strs_one (l : List ByteArray) : ∀ u ∈ l.map Value.string, u.oneCell' = true := by
  intro u hu
  obtain ⟨x, _, rfl⟩ := List.mem_map.1 hu
  rfl
theorem one_str (s : ByteArray) : ∀ u ∈ [Value.string s], u.oneCell' = true := by
  intro u hu
  simp only [List.mem_singleton] at hu
  subst hu
  rfl
theorem strs_take (l : List ByteArray) (i : Nat) : ∀ u ∈ (l.map Value.string).take i, u.oneCell' = true := fun u hu => strs_one l u (List.mem_of_mem_take hu)
theorem strs_drop (l : List ByteArray) (i : Nat) : ∀ u ∈ (l.map Value.string).drop i, u.oneCell' = true := fun u hu => strs_one l u (List.mem_of_mem_drop hu)
theorem cell_one_at (w : World) (x : Value) (t : TypeId) : (w.alloc (.cells #[x] t)).cell? ⟨w.heap.size, 0, none⟩ = some x := (cell_of_row _ _ 0 _ _ _ (heap_alloc_new w _)).trans rfl
theorem one_valsV {w : World} {b : Nat} {x : Value} (h : w.cell? ⟨b, 0, none⟩ = some x) : ValsV w (.slice (some ⟨b, 0, none⟩) 1 1) [x] :=
  ⟨_, _, rfl, fun j v hj => by
    match j, hj with
    | 0, hj => cases hj; exact ⟨b, 0, rfl, h⟩⟩
/-- Behind Set and Delete: the book, and what was touched. -/
def BookOut (w : World) (g : Nat) (kv vv : Value) (B : List Kv) (w' : World) : Prop :=
  ∃ kv' vv', BookAt w' g kv' vv' B ∧ Tch (g :: vv.ownBlock.toList) w w' ∧ ((kv' = kv ∧ vv' = vv) ∨ ∀ k ∈ kv'.ownBlock.toList ++ vv'.ownBlock.toList, w.heap.size ≤ k)

set_option maxRecDepth 20000 in
set_option maxHeartbeats 2000000 in
theorem set_any {w : World} {g : Nat} {kv vv : Value} {B : List Kv} (h : BookAt w g kv vv B) (hl : B.length < 100000) (key v : ByteArray) :
    Calls Try.prog 27 #[.pointer (some ⟨g, 0, none⟩), .string key, .string v] w fun e w' => e = .returned (.tuple #[]) ∧ BookOut w g kv vv (put B key v) w' := by
  have hpl := place_le B key
  cases hi : is B key with
  | true =>
    obtain ⟨u, hu⟩ := is_iff.1 hi
    have hlt := (List.getElem?_eq_some_iff.1 hu).1
    have hput : put B key v = B.set (place B key) (key, v) := by unfold put; rw [if_pos hi]
    obtain ⟨vb, vcap, rfl, _, hc, hf⟩ := h.hv.at_ (j := place B key) (x := .string u) (by rw [List.map_map, List.getElem?_map, hu]; rfl)
    rw [List.length_map, List.length_map] at *
    have hP := Lib.hid (place_any h key)
    have H := Lib.hid h
    rw [hi] at hP
    rw [hput]
    have ha : w.cell? ⟨g, 1, none⟩ = some (.slice (some ⟨vb, 0, none⟩) B.length vcap) := (cell_of_row w g 1 _ _ _ h.hg).trans (by simp)
    generalize hp : place B key = p at *
    generalize hn : B.length = n at *
    have HN := Lib.hid hn
    clear h hp hn hpl
    go_enter Try.func27, Try.ntmps27
    go_wp2_with fail
    refine hP.out.mono ?_
    rintro e w1 ⟨rfl, t1⟩
    have T1 := Lib.hid t1
    have hc1 := cell_old t1 hc
    have ha1 := cell_old t1 ha
    have hf1 : w1.frozen? ⟨vb, p, none⟩ = false := by
      obtain ⟨_, _, e1, _, _, h2⟩ := (H.out.old t1).hv.at_ (j := p) (x := .string u) (by rw [List.map_map, List.getElem?_map, hu]; rfl)
      cases e1
      exact h2
    clear t1 hc ha hf hP
    go_wp2_with fail
    refine bodyPost_ret (results_none rfl _ _ _) rfl ?_
    have H1 := H.out.old T1.out
    have hvb : vb ∉ kv.ownBlock.toList := H1.ap vb (by simp [Value.ownBlock])
    have hgb : g ≠ vb := by
      obtain ⟨_, _, cur, e1, _, h2, _⟩ := H1.hv.shape.resolve_left (by simp)
      cases e1
      rintro rfl
      rw [H1.hg] at h2
      cases h2
    have t2 : Tch [vb] w1 (w1.setCell ⟨vb, p, none⟩ (.string v)) := (Tch.refl _ _).setCell (by simp) _
    refine ⟨rfl, kv, _, ⟨t2.heap H1.hg (by simpa using hgb), ?_, ?_, H1.ap, ?_, ?_⟩, ?_, .inl ⟨rfl, rfl⟩⟩
    · have e1 : (B.set p (key, v)).map (·.1) = B.map (·.1) := by
        apply List.ext_getElem?
        intro j
        rw [List.getElem?_map, List.getElem?_map, List.getElem?_set]
        split
        · rename_i e2; subst e2
          split
          · rw [hu]; rfl
          · rename_i e3; rw [HN.out] at e3; exact absurd hlt e3
        · rfl
      rw [e1]
      exact H1.hk.kept t2 fun k hk => by
        have : k ∈ kv.ownBlock.toList := by simp [hk]
        simp only [List.mem_singleton]
        rintro rfl
        exact hvb this
    · have := H1.hv.set (j := p) (.string v)
      rw [List.map_set]
      unfold OwnTexts
      rw [List.map_set]
      exact this
    · have := H1.up.put key v
      rwa [hput] at this
    · rw [List.length_set, HN.out]; omega
    · exact (T1.out.mono (by simp)).trans (t2.mono (by simp [Value.ownBlock]))
  | false =>
    have hput : put B key v = B.take (place B key) ++ (key, v) :: B.drop (place B key) := by unfold put; rw [if_neg (by simp [hi])]
    have hP := Lib.hid (place_any h key)
    have hck := h.hk.cap_
    rw [List.length_map, List.length_map] at hck
    obtain ⟨ka, kcap, hkv, _, _⟩ := hck
    have hcv := h.hv.cap_
    rw [List.length_map, List.length_map] at hcv
    obtain ⟨va, vcap, hvv, _, _⟩ := hcv
    subst hkv hvv
    have H := Lib.hid h
    rw [hi] at hP
    have c0 : w.cell? ⟨g, 0, none⟩ = some (.slice ka B.length kcap) := (cell_of_row w g 0 _ _ _ h.hg).trans (by simp)
    have c1 : w.cell? ⟨g, 1, none⟩ = some (.slice va B.length vcap) := (cell_of_row w g 1 _ _ _ h.hg).trans (by simp)
    generalize hp : place B key = p at *
    generalize hn : B.length = n at *
    have HN := Lib.hid hn
    have HK : Hid (OwnTexts w 0 (.slice ka n kcap) (B.map (·.1))) := h.hk
    have HV : Hid (OwnTexts w 0 (.slice va n vcap) (B.map (·.2))) := h.hv
    have LK : Hid ((B.map (·.1)).map Value.string = (B.map (·.1)).map Value.string) := rfl
    have lk : ((B.map (·.1)).map Value.string).length = n := by rw [List.length_map, List.length_map, HN.out]
    have lv : ((B.map (·.2)).map Value.string).length = n := by rw [List.length_map, List.length_map, HN.out]
    have PK := Lib.hid (strs_take (B.map (·.1)) p)
    have QK := Lib.hid (strs_drop (B.map (·.1)) p)
    have PV := Lib.hid (strs_take (B.map (·.2)) p)
    have QV := Lib.hid (strs_drop (B.map (·.2)) p)
    have hK2 : (B.map (·.1)).map Value.string = (B.map (·.1)).map Value.string := rfl
    unfold OwnTexts at HK HV
    generalize hK : (B.map (·.1)).map Value.string = ks at *
    generalize hV : (B.map (·.2)).map Value.string = vs at *
    have EK := Lib.hid hK
    have EV := Lib.hid hV
    have hlk := Lib.hid lk
    have hlv := Lib.hid lv
    have hlt := Lib.hid hl
    have hpn := Lib.hid hpl
    clear h hp hn hK hV lk lv hK2 LK
    go_enter Try.func27, Try.ntmps27
    go_wp2_with fail
    refine hP.out.mono ?_
    rintro e w1 ⟨rfl, t1⟩
    have T1 := Lib.hid t1
    have c0' := cell_old t1 c0
    have c1' := cell_old t1 c1
    have C0 := Lib.hid c0
    have C1 := Lib.hid c1
    clear t1 hP c0 c1
    have HG := Lib.hid H.out.hg
    go_wp2_with (first
      | ((with_reducible refine wc_slice_to (x := .tmp 28) (y := .tmp 29) (i := p) txtT (HK.out.kept T1.out (by simp)) (by have := hlk.out; have := hpn.out; omega) ?_ ?_ ?_); exact rfl; exact rfl; intro u1 hu; go_frame; have U1 := Lib.hid hu; clear hu)
      | (at_builtin; (with_reducible refine wc_append_of (x := .tmp 24) (y := .tmp 30) (u := u1) (m := ks.take p) txtT (by decide) (ownVals_nil w1 w.heap.size _) (T1.out.size) (by have := hlk.out; have := hlt.out; have := hpn.out; simp; omega) rfl rfl ?_ ?_ (U1.out) (PK.out) ?_); exact rfl; exact rfl; intro v2 w2 ho ht; go_frame; have O2 := Lib.hid ho; have T2 := Lib.hid (T1.out.trans ht); have cz := cell_old T2.out C0.out; have cy := cell_old T2.out C1.out; clear ho ht)
      | (at_builtin; (with_reducible refine wc_append_of (x := .tmp 32) (y := .tmp 34) (u := .slice (some ⟨w2.heap.size, 0, none⟩) 1 1) (m := [.string key]) txtT (by decide) (O2.out.kept ((Tch.refl [] _).alloc _) (by simp)) (by have := T2.out.size; simp; omega) (by have := hlk.out; have := hlt.out; have := hpn.out; simp; omega) rfl rfl ?_ ?_ (one_valsV (x := .string key) (cell_one_at _ _ _)) (one_str _) ?_); exact rfl; exact rfl; intro v3 w3 ho ht; go_frame; have O3 := Lib.hid ho; have T3 := Lib.hid (own_on (T2.out.alloc _) (O2.out.kept ((Tch.refl [] _).alloc _) (by simp)) (Nat.le_refl _) ht); have cz := cell_old T3.out C0.out; have cy := cell_old T3.out C1.out; clear ho ht)
      | ((with_reducible refine wc_slice_from (x := .tmp 40) (y := .tmp 41) (i := p) txtT (HK.out.kept T3.out (by simp)) (by have := hlk.out; have := hpn.out; omega) ?_ ?_ ?_); exact rfl; exact rfl; intro u4 hu; go_frame; have U4 := Lib.hid hu; clear hu)
      | (at_builtin; (with_reducible refine wc_append_of (x := .tmp 36) (y := .tmp 42) (u := u4) (m := ks.drop p) txtT (by decide) (O3.out) (T3.out.size) (by have := hlk.out; have := hlt.out; have := hpn.out; simp; omega) rfl rfl ?_ ?_ (U4.out) (QK.out) ?_); exact rfl; exact rfl; intro v5 w5 ho ht; generalize hl5 : ([] ++ ks.take p ++ [Value.string key] ++ ks.drop p) = l5 at ho; obtain ⟨a5, c5, rfl, _, _⟩ := ho.cap_; have L5 := Lib.hid hl5; clear hl5; go_frame; have O5 := Lib.hid ho; have T5 := Lib.hid (own_on T3.out O3.out (Nat.le_refl _) ht); have cz := cell_old T5.out C0.out; have cy := cell_old T5.out C1.out; clear ho ht)
      | ((with_reducible refine wc_slice_to (x := .tmp 48) (y := .tmp 49) (i := p) txtT (HV.out.kept T5.out (by simp)) (by have := hlv.out; have := hpn.out; omega) ?_ ?_ ?_); exact rfl; exact rfl; intro u6 hu; go_frame; have U6 := Lib.hid hu; clear hu)
      | (at_builtin; (with_reducible refine wc_append_of (x := .tmp 44) (y := .tmp 50) (u := u6) (m := vs.take p) txtT (by decide) (ownVals_nil w5 w5.heap.size _) (Nat.le_refl _) (by have := hlv.out; have := hlt.out; have := hpn.out; simp; omega) rfl rfl ?_ ?_ (U6.out) (PV.out) ?_); exact rfl; exact rfl; intro v7 w7 ho ht; go_frame; have O7 := Lib.hid ho; have T7 : Hid (Tch [] w5 w7) := ht; have cz := cell_old (T5.out.trans T7.out) C0.out; have cy := cell_old (T5.out.trans T7.out) C1.out; clear ho ht)
      | (at_builtin; (with_reducible refine wc_append_of (x := .tmp 52) (y := .tmp 54) (u := .slice (some ⟨w7.heap.size, 0, none⟩) 1 1) (m := [.string v]) txtT (by decide) (O7.out.kept ((Tch.refl [] _).alloc _) (by simp)) (by have := T7.out.size; simp; omega) (by have := hlv.out; have := hlt.out; have := hpn.out; simp; omega) rfl rfl ?_ ?_ (one_valsV (x := .string v) (cell_one_at _ _ _)) (one_str _) ?_); exact rfl; exact rfl; intro v8 w8 ho ht; go_frame; have O8 := Lib.hid ho; have T8 := Lib.hid (own_on (T7.out.alloc _) (O7.out.kept ((Tch.refl [] _).alloc _) (by simp)) (Nat.le_refl _) ht); have cz := cell_old (T5.out.trans T8.out) C0.out; have cy := cell_old (T5.out.trans T8.out) C1.out; clear ho ht)
      | ((with_reducible refine wc_slice_from (x := .tmp 60) (y := .tmp 61) (i := p) txtT (HV.out.kept (Lib.hid (T5.out.trans T8.out)).out (by simp)) (by have := hlv.out; have := hpn.out; omega) ?_ ?_ ?_); exact rfl; exact rfl; intro u9 hu; go_frame; have U9 := Lib.hid hu; clear hu)
      | (at_builtin; (with_reducible refine wc_append_of (x := .tmp 56) (y := .tmp 62) (u := u9) (m := vs.drop p) txtT (by decide) (O8.out) (Nat.le_trans (Nat.le_refl _) T8.out.size) (by have := hlv.out; have := hlt.out; have := hpn.out; simp; omega) rfl rfl ?_ ?_ (U9.out) (QV.out) ?_); exact rfl; exact rfl; intro v10 w10 ho ht; generalize hl10 : ([] ++ vs.take p ++ [Value.string v] ++ vs.drop p) = l10 at ho; obtain ⟨a10, c10, rfl, _, _⟩ := ho.cap_; have L10 := Lib.hid hl10; clear hl10; go_frame; have O10 := Lib.hid ho; have T10 := Lib.hid (own_on T8.out O8.out (Nat.le_refl _) ht); have cz := cell_old (T5.out.trans T10.out) C0.out; have cy := cell_old (T5.out.trans T10.out) C1.out; have cg0 := frozen_of_row w10 g 0 _ _ (((T5.out.trans T10.out).heap HG.out (by simp))); have cg1 := frozen_of_row w10 g 1 _ _ (((T5.out.trans T10.out).heap HG.out (by simp))); clear ho ht))
    go_end0
    have TT := T5.out.trans T10.out
    have hg10 := TT.heap HG.out (by simp)
    have hgs : ∀ k, w.heap.size ≤ k → k ≠ g := fun k hk e => by have := lt_of_heap HG.out; omega
    have f5 : ∀ k ∈ (Value.slice a5 l5.length c5).ownBlock.toList, w.heap.size ≤ k := fun k hk => (O5.out.lt k hk).1
    have f10 : ∀ k ∈ (Value.slice a10 l10.length c10).ownBlock.toList, w5.heap.size ≤ k := fun k hk => (O10.out.lt k hk).1
    have tf : Tch [g] w10 ((w10.setCell ⟨g, 0, none⟩ (.slice a5 l5.length c5)).setCell ⟨g, 1, none⟩ (.slice a10 l10.length c10)) := ((Tch.refl _ _).setCell (by simp) _).setCell (by simp) _
    refine ⟨rfl, .slice a5 l5.length c5, .slice a10 l10.length c10, ⟨?_, ?_, ?_, ?_, ?_, ?_⟩, (TT.mono (by simp)).trans (tf.mono (by simp)), .inr fun k hk => ?_⟩
    · rw [heap_setCell_cells (heap_setCell_cells hg10 _ _) _ _]
      rfl
    · have h5 : OwnVals w10 w.heap.size 9 (.slice a5 l5.length c5) l5 := O5.out.kept T10.out (by simp)
      have := (h5.low (Nat.zero_le _)).kept tf fun k hk => by simpa using hgs k (f5 k (by simp [hk]))
      unfold OwnTexts
      rw [hput]
      have e : ((B.take p ++ (key, v) :: B.drop p).map (·.1)).map Value.string = l5 := by
        rw [← L5.out, ← EK.out]
        simp
      rw [e]; exact this
    · have := (O10.out.low (Nat.zero_le _)).kept tf fun k hk => by simpa using hgs k (Nat.le_trans T5.out.size (f10 k (by simp [hk])))
      unfold OwnTexts
      rw [hput]
      have e : ((B.take p ++ (key, v) :: B.drop p).map (·.2)).map Value.string = l10 := by
        rw [← L10.out, ← EV.out]
        simp
      rw [e]; exact this
    · intro k h1 h2
      have := f10 k h1
      have h3 : k < w5.heap.size := (O5.out.lt k h2).2
      omega
    · exact H.out.up.put key v
    · have := length_put B key v
      rw [HN.out] at this; omega
    · rcases List.mem_append.1 hk with h1 | h1
      · exact f5 k h1
      · exact Nat.le_trans T5.out.size (f10 k h1)

set_option maxRecDepth 20000 in
theorem key10_any (w : World) (key : ByteArray) : Calls Try.prog 31 #[.string key] w fun e w' => e = .returned (.bool (decide (1 ≤ key.size ∧ key.size ≤ 200))) ∧ w = w' := by
  by_cases h1 : 1 ≤ key.size
  · by_cases h2 : key.size ≤ 200
    · have e : decide (1 ≤ key.size ∧ key.size ≤ 200) = true := decide_eq_true ⟨h1, h2⟩
      rw [e]
      clear e
      have e2 : decide ((key.size : Int) ≤ 200) = true := decide_eq_true (by omega)
      go_enter Try.func31, Try.ntmps31
      go_wp2_with fail
      go_ret
      exact ⟨rfl, rfl⟩
    · have e : decide (1 ≤ key.size ∧ key.size ≤ 200) = false := decide_eq_false (fun h => h2 h.2)
      rw [e]
      clear e
      have e2 : decide ((key.size : Int) ≤ 200) = false := decide_eq_false (by omega)
      go_enter Try.func31, Try.ntmps31
      go_wp2_with fail
      go_ret
      exact ⟨rfl, rfl⟩
  · have e : decide (1 ≤ key.size ∧ key.size ≤ 200) = false := decide_eq_false (fun h => h1 h.1)
    rw [e]
    clear e
    go_enter Try.func31, Try.ntmps31
    go_wp2_with fail
    go_ret
    exact ⟨rfl, rfl⟩

set_option maxRecDepth 20000 in
set_option maxHeartbeats 2000000 in
theorem bdel_any {w : World} {g : Nat} {kv vv : Value} {B : List Kv} (h : BookAt w g kv vv B) (key : ByteArray) (hk0 : 1 ≤ key.size ∧ key.size ≤ 200) :
    Calls Try.prog 28 #[.pointer (some ⟨g, 0, none⟩), .string key] w fun e w' => e = .returned (.tuple #[.bool (is B key), .int .i64 0]) ∧ BookOut w g kv vv (del B key) w' := by
  have hpl := place_le B key
  have hk : decide (1 ≤ key.size ∧ key.size ≤ 200) = true := decide_eq_true hk0
  clear hk0
  cases hi : is B key with
  | false =>
    have hdel : del B key = B := by unfold del; rw [if_neg (by simp [hi])]
    rw [hdel]
    have hP := Lib.hid (place_any h key)
    rw [hi] at hP
    have H := Lib.hid h
    generalize place B key = p at *
    clear h
    go_enter Try.func28, Try.ntmps28
    go_wp2_with (go_at_call 31; refine (key10_any _ _).mono ?_; rintro e w' ⟨rfl, rfl⟩; rw [hk])
    refine hP.out.mono ?_
    rintro e w1 ⟨rfl, t1⟩
    go_wp2_with fail
    go_ret2
    exact ⟨rfl, kv, vv, H.out.old t1, t1.mono (by simp), .inl ⟨rfl, rfl⟩⟩
  | true =>
    have hput : del B key = B.take (place B key) ++ B.drop (place B key + 1) := by unfold del; rw [if_pos hi]
    have hP := Lib.hid (place_any h key)
    have hck := h.hk.cap_
    rw [List.length_map, List.length_map] at hck
    obtain ⟨ka, kcap, hkv, _, _⟩ := hck
    have hcv := h.hv.cap_
    rw [List.length_map, List.length_map] at hcv
    obtain ⟨va, vcap, hvv, _, _⟩ := hcv
    subst hkv hvv
    have H := Lib.hid h
    rw [hi] at hP
    have c0 : w.cell? ⟨g, 0, none⟩ = some (.slice ka B.length kcap) := (cell_of_row w g 0 _ _ _ h.hg).trans (by simp)
    have c1 : w.cell? ⟨g, 1, none⟩ = some (.slice va B.length vcap) := (cell_of_row w g 1 _ _ _ h.hg).trans (by simp)
    generalize hp : place B key = p at *
    generalize hn : B.length = n at *
    have HN := Lib.hid hn
    have HK : Hid (OwnTexts w 0 (.slice ka n kcap) (B.map (·.1))) := h.hk
    have HV : Hid (OwnTexts w 0 (.slice va n vcap) (B.map (·.2))) := h.hv
    have LK : Hid ((B.map (·.1)).map Value.string = (B.map (·.1)).map Value.string) := rfl
    have lk : ((B.map (·.1)).map Value.string).length = n := by rw [List.length_map, List.length_map, HN.out]
    have lv : ((B.map (·.2)).map Value.string).length = n := by rw [List.length_map, List.length_map, HN.out]
    have PK := Lib.hid (strs_take (B.map (·.1)) p)
    have QK := Lib.hid (strs_drop (B.map (·.1)) (p + 1))
    have PV := Lib.hid (strs_take (B.map (·.2)) p)
    have QV := Lib.hid (strs_drop (B.map (·.2)) (p + 1))
    have hK2 : (B.map (·.1)).map Value.string = (B.map (·.1)).map Value.string := rfl
    unfold OwnTexts at HK HV
    generalize hK : (B.map (·.1)).map Value.string = ks at *
    generalize hV : (B.map (·.2)).map Value.string = vs at *
    have EK := Lib.hid hK
    have EV := Lib.hid hV
    have hlk := Lib.hid lk
    have hlv := Lib.hid lv
    have hlt : Hid (n ≤ 100000) := by show n ≤ _; have := H.out.len; rw [HN.out] at this; exact this
    have hpb : p < 100001 := by have := H.out.len; rw [hn] at this; omega
    have hpn : Hid (p < n) := by obtain ⟨u, hu⟩ := is_iff.1 hi; have := (List.getElem?_eq_some_iff.1 hu).1; rw [hp, hn] at this; exact this
    clear h hp hn hK hV lk lv hK2 LK
    go_enter Try.func28, Try.ntmps28
    go_wp2_with (go_at_call 31; refine (key10_any _ _).mono ?_; rintro e w' ⟨rfl, rfl⟩; rw [hk])
    refine hP.out.mono ?_
    rintro e w1 ⟨rfl, t1⟩
    have T1 := Lib.hid t1
    have c0' := cell_old t1 c0
    have c1' := cell_old t1 c1
    have C0 := Lib.hid c0
    have C1 := Lib.hid c1
    clear t1 hP c0 c1
    have HG := Lib.hid H.out.hg
    go_wp2_with (first
      | ((with_reducible refine wc_slice_to (x := .tmp 25) (y := .tmp 26) (i := p) txtT (HK.out.kept T1.out (by simp)) (by have := hlk.out; have := hpn.out; omega) ?_ ?_ ?_); exact rfl; exact rfl; intro u1 hu; go_frame; have U1 := Lib.hid hu; clear hu)
      | (at_builtin; (with_reducible refine wc_append_of (x := .tmp 21) (y := .tmp 27) (u := u1) (m := ks.take p) txtT (by decide) (ownVals_nil w1 w.heap.size _) (T1.out.size) (by have := hlk.out; have := hlt.out; have := hpn.out; simp; omega) rfl rfl ?_ ?_ (U1.out) (PK.out) ?_); exact rfl; exact rfl; intro v2 w2 ho ht; go_frame; have O2 := Lib.hid ho; have T2 := Lib.hid (T1.out.trans ht); have cz := cell_old T2.out C0.out; have cy := cell_old T2.out C1.out; clear ho ht)
      | ((with_reducible refine wc_slice_from (x := .tmp 33) (y := .tmp 35) (i := p + 1) txtT (HK.out.kept T2.out (by simp)) (by have := hlk.out; have := hpn.out; omega) ?_ ?_ ?_); exact rfl; exact (show Value.int .i64 _ = Value.int .i64 _ from by push_cast; rfl); intro u4 hu; go_frame; have U4 := Lib.hid hu; clear hu)
      | (at_builtin; (with_reducible refine wc_append_of (x := .tmp 29) (y := .tmp 36) (u := u4) (m := ks.drop (p + 1)) txtT (by decide) (O2.out) (T2.out.size) (by have := hlk.out; have := hlt.out; have := hpn.out; simp; omega) rfl rfl ?_ ?_ (U4.out) (QK.out) ?_); exact rfl; exact rfl; intro v5 w5 ho ht; generalize hl5 : ([] ++ ks.take p ++ ks.drop (p + 1)) = l5 at ho; obtain ⟨a5, c5, rfl, _, _⟩ := ho.cap_; have L5 := Lib.hid hl5; clear hl5; go_frame; have O5 := Lib.hid ho; have T5 := Lib.hid (own_on T2.out O2.out (Nat.le_refl _) ht); have cz := cell_old T5.out C0.out; have cy := cell_old T5.out C1.out; clear ho ht)
      | ((with_reducible refine wc_slice_to (x := .tmp 42) (y := .tmp 43) (i := p) txtT (HV.out.kept T5.out (by simp)) (by have := hlv.out; have := hpn.out; omega) ?_ ?_ ?_); exact rfl; exact rfl; intro u6 hu; go_frame; have U6 := Lib.hid hu; clear hu)
      | (at_builtin; (with_reducible refine wc_append_of (x := .tmp 38) (y := .tmp 44) (u := u6) (m := vs.take p) txtT (by decide) (ownVals_nil w5 w5.heap.size _) (Nat.le_refl _) (by have := hlv.out; have := hlt.out; have := hpn.out; simp; omega) rfl rfl ?_ ?_ (U6.out) (PV.out) ?_); exact rfl; exact rfl; intro v7 w7 ho ht; go_frame; have O7 := Lib.hid ho; have T7 : Hid (Tch [] w5 w7) := ht; have cz := cell_old (T5.out.trans T7.out) C0.out; have cy := cell_old (T5.out.trans T7.out) C1.out; clear ho ht)
      | ((with_reducible refine wc_slice_from (x := .tmp 50) (y := .tmp 52) (i := p + 1) txtT (HV.out.kept (T5.out.trans T7.out) (by simp)) (by have := hlv.out; have := hpn.out; omega) ?_ ?_ ?_); exact rfl; exact (show Value.int .i64 _ = Value.int .i64 _ from by push_cast; rfl); intro u9 hu; go_frame; have U9 := Lib.hid hu; clear hu)
      | (at_builtin; (with_reducible refine wc_append_of (x := .tmp 46) (y := .tmp 53) (u := u9) (m := vs.drop (p + 1)) txtT (by decide) (O7.out) (T7.out.size) (by have := hlv.out; have := hlt.out; have := hpn.out; simp; omega) rfl rfl ?_ ?_ (U9.out) (QV.out) ?_); exact rfl; exact rfl; intro v10 w10 ho ht; generalize hl10 : ([] ++ vs.take p ++ vs.drop (p + 1)) = l10 at ho; obtain ⟨a10, c10, rfl, _, _⟩ := ho.cap_; have L10 := Lib.hid hl10; clear hl10; go_frame; have O10 := Lib.hid ho; have T10 := Lib.hid (own_on T7.out O7.out (Nat.le_refl _) ht); have cz := cell_old (T5.out.trans T10.out) C0.out; have cy := cell_old (T5.out.trans T10.out) C1.out; have cg0 := frozen_of_row w10 g 0 _ _ (((T5.out.trans T10.out).heap HG.out (by simp))); have cg1 := frozen_of_row w10 g 1 _ _ (((T5.out.trans T10.out).heap HG.out (by simp))); clear ho ht))
    go_ret2
    have TT := T5.out.trans T10.out
    have hg10 := TT.heap HG.out (by simp)
    have hgs : ∀ k, w.heap.size ≤ k → k ≠ g := fun k hk e => by have := lt_of_heap HG.out; omega
    have f5 : ∀ k ∈ (Value.slice a5 l5.length c5).ownBlock.toList, w.heap.size ≤ k := fun k hk => (O5.out.lt k hk).1
    have f10 : ∀ k ∈ (Value.slice a10 l10.length c10).ownBlock.toList, w5.heap.size ≤ k := fun k hk => (O10.out.lt k hk).1
    have tf : Tch [g] w10 ((w10.setCell ⟨g, 0, none⟩ (.slice a5 l5.length c5)).setCell ⟨g, 1, none⟩ (.slice a10 l10.length c10)) := ((Tch.refl _ _).setCell (by simp) _).setCell (by simp) _
    refine ⟨by rfl, .slice a5 l5.length c5, .slice a10 l10.length c10, ⟨?_, ?_, ?_, ?_, ?_, ?_⟩, (TT.mono (by simp)).trans (tf.mono (by simp)), .inr fun k hk => ?_⟩
    · rw [heap_setCell_cells (heap_setCell_cells hg10 _ _) _ _]
      rfl
    · have h5 : OwnVals w10 w.heap.size 9 (.slice a5 l5.length c5) l5 := O5.out.kept T10.out (by simp)
      have := (h5.low (Nat.zero_le _)).kept tf fun k hk => by simpa using hgs k (f5 k (by simp [hk]))
      unfold OwnTexts
      rw [hput]
      have e : ((B.take p ++ B.drop (p + 1)).map (·.1)).map Value.string = l5 := by
        rw [← L5.out, ← EK.out]
        simp
      rw [e]; exact this
    · have := (O10.out.low (Nat.zero_le _)).kept tf fun k hk => by simpa using hgs k (Nat.le_trans T5.out.size (f10 k (by simp [hk])))
      unfold OwnTexts
      rw [hput]
      have e : ((B.take p ++ B.drop (p + 1)).map (·.2)).map Value.string = l10 := by
        rw [← L10.out, ← EV.out]
        simp
      rw [e]; exact this
    · intro k h1 h2
      have := f10 k h1
      have h3 : k < w5.heap.size := (O5.out.lt k h2).2
      omega
    · exact H.out.up.del key
    · have := length_del B key
      have h2 := hlt.out
      rw [HN.out] at this; omega
    · rcases List.mem_append.1 hk with h1 | h1
      · exact f5 k h1
      · exact Nat.le_trans T5.out.size (f10 k h1)
end Go.Proofs.Ytcdgeeoajhbneaa
