/-
  Views: package view's View over a space in memory: List, Clear, Sub, Mem.
-/
import Derived.Test.YtcdgeeoajhbneaaGreatViewA
namespace Go.Proofs.YtcdgeeoajhbneaaGreat
open Go.RowKit Go.Cib
theorem empty_size (s : ByteArray) : s.toList.isEmpty = decide (s.size = 0) := by
  rw [ByteArray.toList_eq, Bool.eq_iff_iff, List.isEmpty_iff, decide_eq_true_eq]
  constructor
  · intro h
    have := congrArg List.length h
    rw [Array.length_toList] at this
    exact this
  · intro h
    exact List.eq_nil_of_length_eq_zero (by rw [Array.length_toList]; exact h)
theorem isBlank_any (s : ByteArray) (w : World) : Calls Tryz.prog 14 #[.string s] w fun e w' => e = .returned (.bool (decide (s.size = 0))) ∧ w = w' := by
  rw [← empty_size]
  go_enter Tryz.func14, Tryz.ntmps14
  go_wp2_with fail
  go_ret
  exact ⟨rfl, rfl⟩
set_option maxRecDepth 20000 in
set_option maxHeartbeats 1000000 in
theorem idx_any {w : World} {v : Value} {l : List ByteArray} (h : ValsV w v (l.map .string)) (hl : l.length ≤ 1000000) (hp : ∀ s ∈ l, 0 < s.size) :
    Calls Tryz.prog 16 #[v, .func (.func 14) #[] #[]] w fun e w' => e = .returned (.int .i64 (-1)) ∧ w = w' := by
  obtain ⟨a, ca, rfl, ha⟩ := h
  rw [List.length_map]
  have A1 : Hid (∀ j x, l[j]? = some x → ∃ k o, a = some ⟨k, o, none⟩ ∧ w.cell? ⟨k, o + j, none⟩ = some (.string x)) := fun j x hx => ha j _ (by rw [List.getElem?_map, hx]; rfl)
  have HP := Lib.hid hp
  generalize hn : l.length = n at *
  have HN := Lib.hid hn
  clear ha hp hn
  go_enter Tryz.func16, Tryz.ntmps16
  go_wp2_with fail
  go_loopg [8] n (fun q i wr => ∃ j, OnAt n i q j ∧ w = wr)
  case atStart => exact ⟨0, ⟨Nat.zero_le _, rfl, rfl⟩, rfl⟩
  case round =>
    obtain ⟨j, ⟨hj, rfl, rfl⟩, rfl⟩ := hrel
    by_cases hjn : j < n
    · have hx : l[j]? = some (l[j]'(by have := HN.out; omega)) := List.getElem?_eq_getElem _
      generalize l[j]'(by have := HN.out; omega) = x at *
      obtain ⟨k, o, rfl, hc⟩ := A1.out j _ hx
      have hxs := HP.out x (List.mem_of_getElem? hx)
      have CB : Hid (∀ W, Calls Tryz.prog 14 #[.string x] W fun e w' => e = .returned (.bool false) ∧ W = w') := fun W => by
        have := isBlank_any x W
        rwa [decide_eq_false (by omega)] at this
      clear hx
      go_wp2_with (go_at_call 14; refine (CB.out _).mono ?_; rintro e w' ⟨rfl, rfl⟩)
      go_roundg (n - (j + 1))
      case measure => omega
      case rel => exact ⟨j + 1, ⟨by omega, by go_num, rfl⟩, rfl⟩
    · go_wp2_with fail
      go_ret
      exact ⟨rfl, rfl⟩
set_option maxRecDepth 20000 in
set_option maxHeartbeats 4000000 in
theorem delFunc_any {w : World} {v : Value} {l : List ByteArray} (h : ValsV w v (l.map .string)) (hl : l.length ≤ 1000000) (hp : ∀ s ∈ l, 0 < s.size) :
    Calls Tryz.prog 13 #[v, .func (.func 14) #[] #[]] w fun e w' => e = .returned v ∧ w = w' := by
  have CI := idx_any h hl hp
  obtain ⟨a, ca, rfl, _⟩ := h
  clear hl hp
  generalize (l.map Value.string).length = n at *
  have CI := Lib.hid CI
  go_enter Tryz.func13, Tryz.ntmps13
  go_wp2_with fail
  refine CI.out.mono ?_
  rintro e w' ⟨rfl, rfl⟩
  have hm1 : ((-1 : Int) == -1) = true := by decide
  go_wp2_with fail
  go_ret
  exact ⟨rfl, rfl⟩

theorem listed_size {B : List Kv} {p pre after : ByteArray} {m : Nat} : ∀ k ∈ listed B (p ++ pre) (p ++ after) m, p.size ≤ k.size := by
  intro k hk
  unfold listed at hk
  have h := (List.mem_filter.1 (List.mem_of_mem_take hk)).2
  rw [Bool.and_eq_true] at h
  have h1 := begins_append h.1
  unfold begins at h1
  have := (List.isPrefixOf_iff_prefix.1 h1).length_le
  rwa [tl_size, tl_size] at this
set_option maxRecDepth 20000 in
set_option maxHeartbeats 2000000 in
theorem vlist_any {w : World} {b X M : Nat} {p : ByteArray} {B : List Kv} (h : ViewAt w b X p) (hp : p.size ≤ 100) (hm : MemAt w X M B) (pre after : ByteArray) (hs1 : pre.size ≤ 1000000000000000000) (hs2 : after.size ≤ 1000000000000000000) (most : Int) :
    Calls Tryz.prog 8 #[.pointer (some ⟨b, 0, none⟩), .string pre, .string after, .int .i64 most] w fun e w' => Tch [] w w' ∧ ∃ v, e = .returned (.tuple #[v, .int .i64 (if most < 0 then 2 else 0)]) ∧ OwnTexts w' w.heap.size v (if most < 0 then [] else vlist B p pre after most.toNat) := by
  have c0 := h.c0
  have c1 := h.c1
  by_cases hneg : most < 0
  · rw [if_pos hneg, if_pos hneg]
    go_enter Tryz.func8, Tryz.ntmps8
    go_wp2_with fail
    go_ret2
    exact ⟨Tch.refl _ _, _, rfl, ownVals_nil _ _ _⟩
  · rw [if_neg hneg, if_neg hneg]
    have CG : Hid (∀ W, Tch [] w W → Calls Tryz.prog 175 #[.pointer (some ⟨X, 0, none⟩), .string (p ++ pre), .string (p ++ after), .int .i64 most] W fun e w' => ∃ v, e = .returned (.tuple #[v, .int .i64 0]) ∧ OwnTexts w' W.heap.size v (listed B (p ++ pre) (p ++ after) most.toNat) ∧ Tch [] W w') := fun W ht => mlist_any (hm.old ht) _ _ _
    have HV := Lib.hid h
    have hsz := listed_size (B := B) (p := p) (pre := pre) (after := after) (m := most.toNat)
    have hlen := length_listed B (p ++ pre) (p ++ after) most.toNat
    have hBl := hm.len
    have hpos := vlist_pos (B := B) (p := p) (pre := pre) (after := after) (most := most.toNat)
    unfold vlist at hpos ⊢
    generalize listed B (p ++ pre) (p ++ after) most.toNat = ls at *
    have HS := Lib.hid hsz
    have HPOS := Lib.hid hpos
    have hn : ls.length ≤ 100000 := by omega
    clear hsz hpos h hm hlen hBl
    go_enter Tryz.func8, Tryz.ntmps8
    go_wp2_with fail
    (refine rest_gate 19 (fun w' => ∃ n, w' = World.drewN w n) (fun u w' => Tch [] w w' ∧ ∃ v, u = .tuple #[v, .int .i64 0] ∧ OwnTexts w' w.heap.size v ls) (by kernel_rfl) (by kernel_rfl) ⟨1, rfl⟩ ?_; simp only [List.take_succ_cons, List.take_zero]; (repeat (first | fail | go_big_quiet_step (fail))); refine wpQuiet_nil ⟨_, rfl, rfl, ?_, ?_⟩)
    · rintro w' ⟨nq, rfl⟩
      go_simp
      rw [meth_list _ (by kernel_rfl)]
      simp only [Result.andThen_ok, cf_list, StpR_enter]
      refine (CG.out _ (tch_drewN w nq)).mono ?_
      rintro e w2 ⟨v, rfl, ho, t2⟩
      exact ⟨_, rfl, (tch_drewN w nq).trans t2, _, rfl, ho⟩
    · rintro u w1 ⟨ht, v, rfl, ho⟩
      have hc := OwnVals.cap_ ho
      rw [List.length_map] at hc
      obtain ⟨la, lcap, rfl, _, _⟩ := hc
      have O1 := Lib.hid ho
      have T1 := Lib.hid ht
      clear ht ho CG
      generalize hlen : ls.length = n at *
      have HN := Lib.hid hlen
      clear hlen
      go_frame
      (refine rest_quiet (m := 24) (fun w2 => ∃ n, w2 = World.drewN w1 n) (by decide) (by kernel_rfl) ⟨0, rfl⟩ ?_; simp only [List.take_succ_cons, List.take_zero, List.drop_succ_cons, List.drop_zero]; (repeat (first | fail | go_big_quiet_step (fail))); refine wpQuiet_nil ?_; intro _ hw'; obtain ⟨nq, hw''⟩ := hw'; subst hw''; refine rest_end (by kernel_rfl) ?_; simp only [List.drop_succ_cons, List.drop_zero])
      go_wp2_with fail
      go_loopg [47] n (fun q i wr => ∃ j, OnAt n i q j ∧ Tch [] w wr ∧ OwnTexts wr w.heap.size (.slice la n lcap) ((ls.take j).map (dropT p.size) ++ ls.drop j))
      case atStart => exact ⟨0, ⟨Nat.zero_le _, rfl, rfl⟩, T1.out.trans (tch_drewN _ _), by rw [List.take_zero, List.map_nil, List.nil_append, List.drop_zero]; exact OwnVals.kept O1.out (tch_drewN _ _) (by simp)⟩
      case round =>
        obtain ⟨j, ⟨hj, rfl, rfl⟩, hT, hO⟩ := hrel
        have T2 := Lib.hid hT
        have O2 := Lib.hid hO
        have c1' := cell_old hT c1
        clear hT hO
        by_cases hjn : j < n
        · have hx : ls[j]? = some (ls[j]'(by have := HN.out; omega)) := List.getElem?_eq_getElem _
          generalize ls[j]'(by have := HN.out; omega) = k at *
          have hlen1 : ((ls.take j).map (dropT p.size)).length = j := by rw [List.length_map, List.length_take]; have := HN.out; omega
          have hat : ((ls.take j).map (dropT p.size) ++ ls.drop j)[j]? = some k := by
            rw [List.getElem?_append_right (by omega), hlen1, List.getElem?_drop, Nat.sub_self, Nat.add_zero]; exact hx
          obtain ⟨g, cap', e1, hg, hcell, hfz⟩ := OwnVals.at_ O2.out (j := j) (x := .string k) (by rw [List.getElem?_map, hat]; rfl)
          have hl2 : (List.map Value.string ((ls.take j).map (dropT p.size) ++ ls.drop j)).length = n := by
            rw [List.length_map, List.length_append, hlen1, List.length_drop]; have := HN.out; omega
          rw [hl2] at e1
          cases e1
          have hks := HS.out k (List.mem_of_getElem? hx)
          have HX := Lib.hid hx
          have hset : Hid (((ls.take j).map (dropT p.size) ++ ls.drop j).set j (dropT p.size k) = (ls.take (j + 1)).map (dropT p.size) ++ ls.drop (j + 1)) := by
            show _ = _
            rw [List.set_append_right _ _ (by omega), hlen1, Nat.sub_self]
            have hjl : j < ls.length := by have := HN.out; omega
            have hd : ls.drop j = k :: ls.drop (j + 1) := by
              rw [List.drop_eq_getElem_cons hjl]
              congr 1
              exact (List.getElem?_eq_some_iff.1 hx).2
            rw [hd, List.set_cons_zero, List.take_add_one, hx]
            simp
          clear hx hat hl2 hlen1
          go_wp2_with fail
          (refine wp_region_walk (C := fun w' => ∃ n, w' = World.drewN wr n) 13 (by kernel_rfl) (by kernel_rfl) ⟨1, rfl⟩ ?_; simp only [List.take_succ_cons, List.take_zero, List.drop_succ_cons, List.drop_zero]; (repeat (first | fail | go_big_quiet_step (fail))); refine wpQuiet_nil ?_; intro _ hw'; obtain ⟨nq, hw''⟩ := hw'; subst hw'')
          have hcell' : (wr.drewN nq).cell? ⟨g, j, none⟩ = some (.string k) := hcell
          have hfz' : (wr.drewN nq).frozen? ⟨g, j, none⟩ = false := hfz
          go_wp2_with fail
          go_roundg (n - (j + 1))
          case measure => omega
          case rel =>
            have o3 : OwnTexts (wr.drewN nq) w.heap.size (.slice (some ⟨g, 0, none⟩) n lcap) _ := OwnVals.kept O2.out (tch_drewN wr nq) (by simp)
            have t3 := T2.out.trans (tch_drewN wr nq)
            refine ⟨j + 1, ⟨by omega, by go_num, rfl⟩, t3.setCell (.inr hg) _, ?_⟩
            have := OwnVals.set o3 (j := j) (.string (dropT p.size k))
            unfold OwnTexts
            rw [← List.map_set, hset.out] at this
            exact this
        · go_wp2_with fail
          have e1 : ls.take j = ls := List.take_of_length_le (by have := HN.out; omega)
          have e2 : ls.drop j = [] := List.drop_of_length_le (by have := HN.out; omega)
          have O3 : OwnTexts wr w.heap.size (.slice la n lcap) (ls.map (dropT p.size)) := by
            have := O2.out
            rwa [e1, e2, List.append_nil] at this
          refine (delFunc_any (OwnVals.valsV O3) (by rw [List.length_map]; have := HN.out; omega) HPOS.out).mono ?_
          rintro e w5 ⟨rfl, rfl⟩
          have O4 := Lib.hid O3
          clear O3
          go_wp2_with fail
          go_ret2
          exact ⟨T2.out, _, rfl, O4.out⟩

set_option maxRecDepth 20000 in
set_option maxHeartbeats 2000000 in
theorem vclear_any {w : World} {b X M : Nat} {p : ByteArray} {B : List Kv} (h : ViewAt w b X p) (hp : p.size ≤ 100) (hm : MemAt w X M B) (pre : ByteArray) (hs1 : pre.size ≤ 1000000000000000000) :
    Calls Tryz.prog 9 #[.pointer (some ⟨b, 0, none⟩), .string pre] w fun e w' => e = .returned (.tuple #[.int .i64 (vlist B p pre ByteArray.empty 2147483648).length, .int .i64 0]) ∧ MemAt w' X M (vclear B p (vlist B p pre ByteArray.empty 2147483648)) ∧ Tch [M] w w' := by
  have CL := vlist_any h hp hm pre ByteArray.empty hs1 (by decide) 2147483648
  rw [if_neg (by decide), if_neg (by decide)] at CL
  have hk := vlist_key (B := B) hm.sz (p := p) (pre := pre) (after := ByteArray.empty) (m := 2147483648)
  have hlen : (vlist B p pre ByteArray.empty 2147483648).length ≤ 100000 := by
    unfold vlist
    rw [List.length_map]
    exact Nat.le_trans (length_listed _ _ _ _) hm.len
  change Calls _ _ _ _ (fun e w' => Tch [] w w' ∧ ∃ v, _ ∧ OwnTexts w' w.heap.size v (vlist B p pre ByteArray.empty 2147483648)) at CL
  generalize vlist B p pre ByteArray.empty 2147483648 = ks at *
  have HK := Lib.hid hk
  have HV := Lib.hid h
  have HM := Lib.hid hm
  have CL := Lib.hid CL
  have hMl := hm.hM.lt
  generalize hn : ks.length = n at *
  have HN := Lib.hid hn
  clear h hm hk hn
  go_enter Tryz.func9, Tryz.ntmps9
  go_wp2_with fail
  refine CL.out.mono ?_
  rintro e w1 ⟨t1, v, rfl, ho⟩
  have hc := OwnVals.cap_ ho
  rw [List.length_map, HN.out] at hc
  obtain ⟨la, lcap, rfl, _, _⟩ := hc
  have O1 := Lib.hid ho
  have T1 := Lib.hid t1
  clear t1 ho CL
  go_wp2_with fail
  go_loopg [23] n (fun q i wr => ∃ j, OnAt n i q j ∧ MemAt wr X M (vclear B p (ks.take j)) ∧ Tch [M] w wr ∧ OwnTexts wr w.heap.size (.slice la n lcap) ks)
  case atStart => exact ⟨0, ⟨Nat.zero_le _, rfl, rfl⟩, by rw [List.take_zero]; exact HM.out.old T1.out, T1.out.mono (by simp), O1.out⟩
  case round =>
    obtain ⟨j, ⟨hj, rfl, rfl⟩, hM2, hT, hO⟩ := hrel
    have T2 := Lib.hid hT
    have O2 := Lib.hid hO
    have M2 := Lib.hid hM2
    clear hT hO hM2
    by_cases hjn : j < n
    · have hx : ks[j]? = some (ks[j]'(by have := HN.out; omega)) := List.getElem?_eq_getElem _
      generalize ks[j]'(by have := HN.out; omega) = k at *
      obtain ⟨g, cap', e1, hg, hcell, _⟩ := OwnVals.at_ O2.out (j := j) (x := .string k) (by rw [List.getElem?_map, hx]; rfl)
      rw [List.length_map, HN.out] at e1
      cases e1
      have hvk := HK.out k (List.mem_of_getElem? hx)
      have hbk : b < w.heap.size := lt_of_heap HV.out
      have hbM : b ≠ M := by
        rintro rfl
        obtain ⟨es, clk, h1, _⟩ := HM.out.hM
        rw [HV.out] at h1; cases h1
      have CD := vdel_any (HV.out.touch T2.out (by simpa using hbM)) hp M2.out k
      unfold vdel at CD
      rw [if_pos hvk] at CD
      have CD := Lib.hid CD
      have HX := Lib.hid hx
      generalize is (vclear B p (ks.take j)) (p ++ k) = bb at *
      clear hx hvk
      go_wp2_with fail
      refine CD.out.mono ?_
      rintro e w5 ⟨rfl, h5, t5⟩
      have H5 := Lib.hid h5
      have T5 := Lib.hid t5
      clear h5 t5
      go_wp2_with fail
      go_roundg (n - (j + 1))
      case measure => omega
      case rel =>
        refine ⟨j + 1, ⟨by omega, by go_num, rfl⟩, ?_, T2.out.trans T5.out, OwnVals.kept O2.out T5.out fun k hk => ?_⟩
        · rw [List.take_add_one, HX.out, Option.toList_some, vclear_snoc]; exact H5.out
        · have : k = g := by simpa [Value.ownBlock] using hk.symm
          subst this
          simp only [List.mem_singleton]
          omega
    · go_wp2_with fail
      go_ret2
      have e1 : ks.take j = ks := List.take_of_length_le (by have := HN.out; omega)
      have := M2.out
      rw [e1] at this
      exact ⟨rfl, this, T2.out⟩

set_option maxRecDepth 20000 in
set_option maxHeartbeats 1000000 in
theorem vsub_any {w : World} {b X : Nat} {p : ByteArray} (h : ViewAt w b X p) (hp : p.size ≤ 100) (key : ByteArray) (_hk : key.size ≤ 1000000000000000000) :
    Calls Tryz.prog 5 #[.pointer (some ⟨b, 0, none⟩), .string key] w fun e w' => Tch [] w w' ∧ ((100 < p.size + key.size ∧ e = .returned (.tuple #[.pointer none, .int .i64 2])) ∨ (p.size + key.size ≤ 100 ∧ ∃ g, e = .returned (.tuple #[.pointer (some ⟨g, 0, none⟩), .int .i64 0]) ∧ ViewAt w' g X (p ++ key) ∧ w.heap.size ≤ g)) := by
  have c0 := h.c0
  have c1 := h.c1
  clear h
  by_cases hbig : 100 < p.size + key.size
  · have h2 : 100 - (p.size : Int) < key.size := by omega
    go_enter Tryz.func5, Tryz.ntmps5
    go_wp2_with fail
    go_ret2
    exact ⟨Tch.refl _ _, .inl ⟨hbig, rfl⟩⟩
  · have h2 : ¬ (100 - (p.size : Int) < key.size) := by omega
    go_enter Tryz.func5, Tryz.ntmps5
    go_wp2_with fail
    (refine wp_region_walk (C := fun w' => ∃ n, w' = World.drewN w n) 10 (by kernel_rfl) (by kernel_rfl) ⟨1, rfl⟩ ?_; simp only [List.take_succ_cons, List.take_zero, List.drop_succ_cons, List.drop_zero]; (repeat (first | fail | go_big_quiet_step (fail))); refine wpQuiet_nil ?_; intro _ hw'; obtain ⟨nq, hw''⟩ := hw'; subst hw'')
    go_wp2_with fail
    go_ret2
    exact ⟨(tch_drewN w nq).trans ((Tch.refl _ _).alloc _), .inr ⟨by omega, _, rfl, heap_alloc_new _ _, Nat.le_refl _⟩⟩
set_option maxRecDepth 20000 in
theorem vmem_any (w : World) : Calls Tryz.prog 15 #[] w fun e w' => Tch [] w w' ∧ ∃ b X M, e = .returned (.pointer (some ⟨b, 0, none⟩)) ∧ ViewAt w' b X ByteArray.empty ∧ MemAt w' X M [] ∧ w.heap.size ≤ b ∧ w.heap.size ≤ X ∧ w.heap.size ≤ M := by
  go_enter Tryz.func15, Tryz.ntmps15
  go_wp2_with ((with_reducible refine wc_makeMap kStr ?_); intro hm5; go_frame; have HM5 := Lib.hid hm5; clear hm5)
  go_ret
  have t1 : Tch [] (w.alloc (.map #[] 0)) (((w.alloc (.map #[] 0)).alloc (.cells #[.map (some w.heap.size)] 54)).alloc (.cells #[.iface 51 (.pointer (some ⟨w.heap.size + 1, 0, none⟩)), .string ByteArray.empty] 45)) := ((Tch.refl _ _).alloc _).alloc _
  refine ⟨(((Tch.refl _ _).alloc _).alloc _).alloc _, w.heap.size + 2, w.heap.size + 1, w.heap.size, ?_, ?_, ⟨?_, ?_, List.Pairwise.nil, by simp, by simp⟩, by omega, by omega, Nat.le_refl _⟩
  · simp
  · unfold ViewAt
    have e : w.heap.size + 2 = ((w.alloc (.map #[] 0)).alloc (.cells #[.map (some w.heap.size)] 54)).heap.size := by simp
    rw [e]
    exact heap_alloc_new _ _
  · have h1 := heap_alloc_new (w.alloc (.map #[] 0)) (.cells #[.map (some w.heap.size)] 54)
    have h2 : ((w.alloc (.map #[] 0)).alloc (.cells #[.map (some w.heap.size)] 54)).heap[w.heap.size + 1]? = some (.cells #[.map (some w.heap.size)] 54) := by simpa using h1
    exact ((Tch.refl [] _).alloc _).heap h2 (by simp)
  · have := HM5.out.touch t1 (by simp)
    have e : (fun k => (Cib.get ([] : List Kv) k).map fun v => Value.agg #[.string v]) = fun _ => none := by
      funext k
      unfold Cib.get Cib.is keyAt place
      simp
    rw [e]
    exact this
end Go.Proofs.YtcdgeeoajhbneaaGreat
