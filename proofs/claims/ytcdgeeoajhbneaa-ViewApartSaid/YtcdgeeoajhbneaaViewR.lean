/-
  Views as the document says them: ciboriumref17's View over a book: Key, Get, Put, Delete, List, Clear, Sub, Mem.
-/
import Derived.Test.YtcdgeeoajhbneaaBookB
import Derived.Test.YtcdgeeoajhbneaaRegion8
namespace Go.Proofs.Ytcdgeeoajhbneaa
open Go.RowKit Go.Cib
/-- Block b is the document's view of the book in block g under a prefix. -/
def RViewAt (w : World) (b g : Nat) (p : ByteArray) : Prop := w.heap[b]? = some (.cells #[.pointer (some ⟨g, 0, none⟩), .string p] 46)
theorem RViewAt.touch {w w' : World} {b g : Nat} {p : ByteArray} {S : List Nat} (h : RViewAt w b g p) (ht : Tch S w w') (hn : b ∉ S) : RViewAt w' b g p := ht.heap h hn
theorem RViewAt.c0 {w : World} {b g : Nat} {p : ByteArray} (h : RViewAt w b g p) : w.cell? ⟨b, 0, none⟩ = some (.pointer (some ⟨g, 0, none⟩)) := (cell_of_row w b 0 _ _ _ h).trans (by simp)
theorem RViewAt.c1 {w : World} {b g : Nat} {p : ByteArray} (h : RViewAt w b g p) : w.cell? ⟨b, 1, none⟩ = some (.string p) := (cell_of_row w b 1 _ _ _ h).trans (by simp)
theorem rkey_any {w : World} {b g : Nat} {p : ByteArray} (h : RViewAt w b g p) (hp : p.size ≤ 100) (key : ByteArray) (hk : key.size ≤ 1000000000000000000) :
    Calls Try.prog 25 #[.pointer (some ⟨b, 0, none⟩), .string key] w fun e w' => e = .returned (.bool (vkey p key)) ∧ w = w' := by
  have c1 := h.c1
  clear h
  by_cases h1 : 1 ≤ key.size
  · have e1 : vkey p key = decide ((p.size : Int) + (key.size : Int) ≤ 198) := by
      unfold vkey
      rw [decide_eq_decide]
      omega
    rw [e1]
    go_enter Try.func25, Try.ntmps25
    go_wp2_with fail
    go_ret
    exact ⟨rfl, rfl⟩
  · have e1 : vkey p key = false := by
      unfold vkey
      exact decide_eq_false fun h => h1 h.1
    rw [e1]
    go_enter Try.func25, Try.ntmps25
    go_wp2_with fail
    go_ret
    exact ⟨rfl, rfl⟩

set_option maxRecDepth 20000 in
set_option maxHeartbeats 1000000 in
theorem rget_any {w : World} {b g : Nat} {p : ByteArray} {kv vv : Value} {B : List Kv} (h : RViewAt w b g p) (hp : p.size ≤ 100) (hb : BookAt w g kv vv B) (key : ByteArray) (hk : key.size ≤ 1000000000000000000) :
    Calls Try.prog 13 #[.pointer (some ⟨b, 0, none⟩), .string key] w fun e w' => e = .returned (.tuple #[.string (vget B p key).1, .bool (vget B p key).2.1, .int .i64 (vget B p key).2.2]) ∧ Tch [] w w' := by
  have CK := Lib.hid (rkey_any h hp key hk)
  have c0 := h.c0
  have c1 := h.c1
  unfold vget
  cases hv : vkey p key with
  | false =>
    rw [hv] at CK
    rw [if_neg (by simp)]
    clear h hb
    go_enter Try.func13, Try.ntmps13
    go_wp2_with (go_at_call 25; refine CK.out.mono ?_; rintro e w' ⟨rfl, rfl⟩)
    go_ret3
    exact ⟨rfl, Tch.refl _ _⟩
  | true =>
    rw [hv] at CK
    rw [if_pos rfl]
    have CP : Hid (∀ W, Tch [] w W → Calls Try.prog 26 #[.pointer (some ⟨g, 0, none⟩), .string (p ++ key)] W fun e w' => e = .returned (.tuple #[.int .i64 (place B (p ++ key)), .bool (is B (p ++ key))]) ∧ Tch [] W w') := fun W ht => place_any (hb.old ht) _
    cases hi : is B (p ++ key) with
    | false =>
      have hg : Cib.get B (p ++ key) = none := by unfold Cib.get; rw [hi]; rfl
      rw [hi] at CP
      rw [hg]
      show Calls _ _ _ _ fun e w' => e = .returned (.tuple #[.string ByteArray.empty, .bool false, .int .i64 0]) ∧ Tch [] w w'
      generalize place B (p ++ key) = i at *
      clear h hb
      go_enter Try.func13, Try.ntmps13
      go_wp2_with (go_at_call 25; refine CK.out.mono ?_; rintro e w' ⟨rfl, rfl⟩)
      (refine rest_gate 10 (fun w' => ∃ n, w' = World.drewN w n) (fun u w' => u = .tuple #[.int .i64 i, .bool false] ∧ Tch [] w w') (by kernel_rfl) (by kernel_rfl) ⟨1, rfl⟩ ?_; simp only [List.take_succ_cons, List.take_zero]; (repeat (first | fail | go_big_quiet_step (fail))); refine wpQuiet_nil ⟨_, rfl, rfl, ?_, ?_⟩)
      · rintro w' ⟨nq, rfl⟩
        go_simp
        refine (CP.out _ (tch_drewN w nq)).mono ?_
        rintro e w2 ⟨rfl, t2⟩
        exact ⟨_, rfl, rfl, (tch_drewN w nq).trans t2⟩
      · rintro u w' ⟨rfl, ht⟩
        have HT := Lib.hid ht
        clear ht
        go_frame
        (refine rest_quiet (m := 15) (fun w2 => ∃ n, w2 = World.drewN w' n) (by decide) (by kernel_rfl) ⟨0, rfl⟩ ?_; simp only [List.take_succ_cons, List.take_zero, List.drop_succ_cons, List.drop_zero]; (repeat (first | fail | go_big_quiet_step (fail))); refine wpQuiet_nil ?_; intro _ hw'; obtain ⟨nq, hw''⟩ := hw'; subst hw''; refine rest_end (by kernel_rfl) ?_; simp only [List.drop_succ_cons, List.drop_zero])
        go_wp2_with fail
        go_ret3
        exact ⟨rfl, HT.out.trans (tch_drewN _ _)⟩
    | true =>
      obtain ⟨u, hu⟩ := is_iff.1 hi
      have hg : Cib.get B (p ++ key) = some u := by unfold Cib.get; rw [if_pos hi, hu]; rfl
      rw [hi] at CP
      rw [hg]
      show Calls _ _ _ _ fun e w' => e = .returned (.tuple #[.string u, .bool true, .int .i64 0]) ∧ Tch [] w w'
      have hpl := (List.getElem?_eq_some_iff.1 hu).1
      obtain ⟨vb, vcap, rfl, _, hc, _⟩ := hb.hv.at_ (j := place B (p ++ key)) (x := .string u) (by rw [List.map_map, List.getElem?_map, hu]; rfl)
      have ha : w.cell? ⟨g, 1, none⟩ = some (.slice (some ⟨vb, 0, none⟩) B.length vcap) := (cell_of_row w g 1 _ _ _ hb.hg).trans (by simp)
      have hBl := hb.len
      generalize place B (p ++ key) = i at *
      generalize B.length = n at *
      have HA := Lib.hid ha
      have HC := Lib.hid hc
      have C0 := Lib.hid c0
      clear h hb ha hc
      go_enter Try.func13, Try.ntmps13
      go_wp2_with (go_at_call 25; refine CK.out.mono ?_; rintro e w' ⟨rfl, rfl⟩)
      (refine rest_gate 10 (fun w' => ∃ n, w' = World.drewN w n) (fun u w' => u = .tuple #[.int .i64 i, .bool true] ∧ Tch [] w w') (by kernel_rfl) (by kernel_rfl) ⟨1, rfl⟩ ?_; simp only [List.take_succ_cons, List.take_zero]; (repeat (first | fail | go_big_quiet_step (fail))); refine wpQuiet_nil ⟨_, rfl, rfl, ?_, ?_⟩)
      · rintro w' ⟨nq, rfl⟩
        go_simp
        refine (CP.out _ (tch_drewN w nq)).mono ?_
        rintro e w2 ⟨rfl, t2⟩
        exact ⟨_, rfl, rfl, (tch_drewN w nq).trans t2⟩
      · rintro u w' ⟨rfl, ht⟩
        have HT := Lib.hid ht
        clear ht
        go_frame
        (refine rest_quiet (m := 15) (fun w2 => ∃ n, w2 = World.drewN w' n) (by decide) (by kernel_rfl) ⟨0, rfl⟩ ?_; simp only [List.take_succ_cons, List.take_zero, List.drop_succ_cons, List.drop_zero]; (repeat (first | fail | go_big_quiet_step (fail))); refine wpQuiet_nil ?_; intro _ hw'; obtain ⟨nq, hw''⟩ := hw'; subst hw''; refine rest_end (by kernel_rfl) ?_; simp only [List.drop_succ_cons, List.drop_zero])
        have d0 := cell_old (HT.out.trans (tch_drewN w' nq)) C0.out
        have d1 := cell_old (HT.out.trans (tch_drewN w' nq)) HA.out
        have d2 := cell_old (HT.out.trans (tch_drewN w' nq)) HC.out
        go_wp2_with fail
        go_ret3
        exact ⟨rfl, HT.out.trans (tch_drewN _ _)⟩
theorem size_pk2 {p key : ByteArray} (hv : vkey p key = true) : (p ++ key).size ≤ 198 ∧ 1 ≤ (p ++ key).size := by
  unfold vkey at hv
  simp only [decide_eq_true_eq] at hv
  have e : (p ++ key).size = p.size + key.size := by
    show (tl (p ++ key)).length = _
    rw [tl_append, List.length_append]; rfl
  omega
set_option maxRecDepth 20000 in
set_option maxHeartbeats 1000000 in
theorem rput_any {w : World} {b g : Nat} {p : ByteArray} {kv vv : Value} {B : List Kv} (h : RViewAt w b g p) (hp : p.size ≤ 100) (hb : BookAt w g kv vv B) (hl : B.length < 100000) (key v : ByteArray) (hk : key.size ≤ 1000000000000000000) (hvs : v.size ≤ 9223372036854775807) :
    Calls Try.prog 15 #[.pointer (some ⟨b, 0, none⟩), .string key, .string v] w fun e w' => e = .returned (.int .i64 (vput B p key v).1) ∧ BookOut w g kv vv (vput B p key v).2 w' := by
  have CK := Lib.hid (rkey_any h hp key hk)
  have c0 := h.c0
  have c1 := h.c1
  have stay : Hid (BookOut w g kv vv B w) := ⟨kv, vv, hb, Tch.refl _ _, .inl ⟨rfl, rfl⟩⟩
  unfold vput
  cases hv : vkey p key with
  | false =>
    rw [hv] at CK
    rw [if_neg (by simp)]
    clear h hb
    go_enter Try.func15, Try.ntmps15
    go_wp2_with (go_at_call 25; refine CK.out.mono ?_; rintro e w' ⟨rfl, rfl⟩)
    go_ret
    exact ⟨rfl, stay.out⟩
  | true =>
    rw [hv] at CK
    rw [if_pos rfl]
    by_cases hbig : 3968 < v.size
    · rw [if_pos hbig]
      clear h hb
      go_enter Try.func15, Try.ntmps15
      go_wp2_with (go_at_call 25; refine CK.out.mono ?_; rintro e w' ⟨rfl, rfl⟩)
      go_ret
      exact ⟨rfl, stay.out⟩
    · rw [if_neg hbig]
      show Calls _ _ _ _ fun e w' => e = .returned (.int .i64 0) ∧ BookOut w g kv vv (put B (p ++ key) v) w'
      have CS : Hid (∀ W, Tch [] w W → Calls Try.prog 27 #[.pointer (some ⟨g, 0, none⟩), .string (p ++ key), .string v] W fun e w' => e = .returned (.tuple #[]) ∧ BookOut W g kv vv (put B (p ++ key) v) w') := fun W ht => set_any (hb.old ht) hl _ _
      clear h hb
      go_enter Try.func15, Try.ntmps15
      go_wp2_with (go_at_call 25; refine CK.out.mono ?_; rintro e w' ⟨rfl, rfl⟩)
      (refine rest_gate 11 (fun w' => ∃ n, w' = World.drewN w n) (fun u w' => u = .tuple #[] ∧ BookOut w g kv vv (put B (p ++ key) v) w') (by kernel_rfl) (by kernel_rfl) ⟨1, rfl⟩ ?_; simp only [List.take_succ_cons, List.take_zero]; (repeat (first | fail | go_big_quiet_step (fail))); refine wpQuiet_nil ⟨_, rfl, rfl, ?_, ?_⟩)
      · rintro w' ⟨nq, rfl⟩
        go_simp
        refine (CS.out _ (tch_drewN w nq)).mono ?_
        rintro e w2 ⟨rfl, kv', vv', h1, h2, h3⟩
        exact ⟨_, rfl, rfl, kv', vv', h1, ((tch_drewN w nq).mono (by simp)).trans h2, h3⟩
      · rintro u w' ⟨rfl, ho⟩
        have HO := Lib.hid ho
        clear ho
        go_frame
        refine rest_end (by kernel_rfl) ?_
        simp only [List.drop_succ_cons, List.drop_zero]
        go_wp2_with fail
        go_ret
        exact ⟨rfl, HO.out⟩
set_option maxRecDepth 20000 in
set_option maxHeartbeats 1000000 in
theorem rdel_any {w : World} {b g : Nat} {p : ByteArray} {kv vv : Value} {B : List Kv} (h : RViewAt w b g p) (hp : p.size ≤ 100) (hb : BookAt w g kv vv B) (key : ByteArray) (hk : key.size ≤ 1000000000000000000) :
    Calls Try.prog 17 #[.pointer (some ⟨b, 0, none⟩), .string key] w fun e w' => e = .returned (.tuple #[.bool (vdel B p key).1, .int .i64 (vdel B p key).2.1]) ∧ BookOut w g kv vv (vdel B p key).2.2 w' := by
  have CK := Lib.hid (rkey_any h hp key hk)
  have c0 := h.c0
  have c1 := h.c1
  have stay : Hid (BookOut w g kv vv B w) := ⟨kv, vv, hb, Tch.refl _ _, .inl ⟨rfl, rfl⟩⟩
  unfold vdel
  cases hv : vkey p key with
  | false =>
    rw [hv] at CK
    rw [if_neg (by simp)]
    clear h hb
    go_enter Try.func17, Try.ntmps17
    go_wp2_with (go_at_call 25; refine CK.out.mono ?_; rintro e w' ⟨rfl, rfl⟩)
    go_ret2
    exact ⟨rfl, stay.out⟩
  | true =>
    rw [hv] at CK
    rw [if_pos rfl]
    show Calls _ _ _ _ fun e w' => e = .returned (.tuple #[.bool (is B (p ++ key)), .int .i64 0]) ∧ BookOut w g kv vv (del B (p ++ key)) w'
    have CS : Hid (∀ W, Tch [] w W → Calls Try.prog 28 #[.pointer (some ⟨g, 0, none⟩), .string (p ++ key)] W fun e w' => e = .returned (.tuple #[.bool (is B (p ++ key)), .int .i64 0]) ∧ BookOut W g kv vv (del B (p ++ key)) w') := fun W ht => bdel_any (hb.old ht) _ ⟨(size_pk2 hv).2, by have := (size_pk2 hv).1; omega⟩
    generalize is B (p ++ key) = bb at *
    clear h hb
    go_enter Try.func17, Try.ntmps17
    go_wp2_with (go_at_call 25; refine CK.out.mono ?_; rintro e w' ⟨rfl, rfl⟩)
    (refine rest_gate 10 (fun w' => ∃ n, w' = World.drewN w n) (fun u w' => u = .tuple #[.bool bb, .int .i64 0] ∧ BookOut w g kv vv (del B (p ++ key)) w') (by kernel_rfl) (by kernel_rfl) ⟨1, rfl⟩ ?_; simp only [List.take_succ_cons, List.take_zero]; (repeat (first | fail | go_big_quiet_step (fail))); refine wpQuiet_nil ⟨_, rfl, rfl, ?_, ?_⟩)
    · rintro w' ⟨nq, rfl⟩
      go_simp
      refine (CS.out _ (tch_drewN w nq)).mono ?_
      rintro e w2 ⟨rfl, kv', vv', h1, h2, h3⟩
      exact ⟨_, rfl, rfl, kv', vv', h1, ((tch_drewN w nq).mono (by simp)).trans h2, h3⟩
    · rintro u w' ⟨rfl, kv', vv', h1, h2, h3⟩
      have H1 := Lib.hid h1
      have H2 := Lib.hid h2
      have H3 := Lib.hid h3
      clear h1 h2 h3
      go_frame
      (refine rest_quiet (m := 15) (fun w2 => ∃ n, w2 = World.drewN w' n) (by decide) (by kernel_rfl) ⟨0, rfl⟩ ?_; simp only [List.take_succ_cons, List.take_zero, List.drop_succ_cons, List.drop_zero]; (repeat (first | fail | go_big_quiet_step (fail))); refine wpQuiet_nil ?_; intro _ hw'; obtain ⟨nq, hw''⟩ := hw'; subst hw''; refine rest_end (by kernel_rfl) ?_; simp only [List.drop_succ_cons, List.drop_zero])
      go_wp2_with fail
      go_ret2
      exact ⟨rfl, kv', vv', H1.out.old (tch_drewN _ _), H2.out.trans ((tch_drewN _ _).mono (by simp)), H3.out⟩

theorem filt_len {α : Type} (ks : List α) (P : α → Bool) (m j : Nat) : (((ks.take j).filter P).take m).length ≤ ks.length := by
  rw [List.length_take]
  have h1 := List.length_filter_le P (ks.take j)
  rw [List.length_take] at h1
  omega
theorem begins_size {s p : ByteArray} (h : begins s p = true) : p.size ≤ s.size := by
  unfold begins at h
  have := (List.isPrefixOf_iff_prefix.1 h).length_le
  rwa [tl_size, tl_size] at this
set_option maxRecDepth 20000 in
set_option maxHeartbeats 2000000 in
theorem rlist_any {w : World} {b g : Nat} {p : ByteArray} {kv vv : Value} {B : List Kv} (h : RViewAt w b g p) (hp : p.size ≤ 100) (hb : BookAt w g kv vv B) (pre after : ByteArray) (hs1 : pre.size ≤ 1000000000000000000) (most : Int) :
    Calls Try.prog 19 #[.pointer (some ⟨b, 0, none⟩), .string pre, .string after, .int .i64 most] w fun e w' => Tch [] w w' ∧ ∃ v, e = .returned (.tuple #[v, .int .i64 (if most < 0 then 2 else 0)]) ∧ OwnTexts w' w.heap.size v (if most < 0 then [] else vlist B p pre after most.toNat) := by
  have c0 := h.c0
  have c1 := h.c1
  by_cases hneg : most < 0
  · rw [if_pos hneg, if_pos hneg]
    clear h hb
    go_enter Try.func19, Try.ntmps19
    go_wp2_with fail
    go_ret2
    exact ⟨Tch.refl _ _, _, rfl, ownVals_nil _ _ _⟩
  · rw [if_neg hneg, if_neg hneg, vlist_doc]
    have hck := hb.hk.cap_
    rw [List.length_map, List.length_map] at hck
    obtain ⟨ka, kcap, hkv, _, _⟩ := hck
    subst hkv
    have ck : w.cell? ⟨g, 0, none⟩ = some (.slice ka B.length kcap) := (cell_of_row w g 0 _ _ _ hb.hg).trans (by simp)
    have hBl := hb.len
    obtain ⟨ks, hks⟩ : ∃ ks, B.map (·.1) = ks := ⟨_, rfl⟩
    obtain ⟨n, hn⟩ : ∃ n, B.length = n := ⟨_, rfl⟩
    have hkl : ks.length = n := by rw [← hks, List.length_map]; exact hn
    have KA : Hid (∀ j x, ks[j]? = some x → ∃ k, ka = some ⟨k, 0, none⟩ ∧ w.cell? ⟨k, j, none⟩ = some (.string x)) := fun j x hx => by
      obtain ⟨k, c, e1, _, h2, _⟩ := hb.hk.at_ (j := j) (x := .string x) (by rw [hks, List.getElem?_map, hx]; rfl)
      rw [List.length_map, List.length_map] at e1
      cases e1
      exact ⟨k, rfl, h2⟩
    rw [hks]
    rw [hn] at ck hBl
    obtain ⟨m, hm⟩ : ∃ m, most.toNat = m := ⟨_, rfl⟩
    rw [hm]
    have HM := Lib.hid hm
    obtain ⟨P, hP⟩ : ∃ P : ByteArray → Bool, (fun k => begins k (p ++ pre) && blt after (dropT p.size k)) = P := ⟨_, rfl⟩
    have HP := Lib.hid hP
    rw [hP]
    obtain ⟨L, hL⟩ : ∃ L, ((ks.filter P).take m).map (dropT p.size) = L := ⟨_, rfl⟩
    have HL := Lib.hid hL
    rw [hL]
    have HN := Lib.hid hkl
    have CK := Lib.hid ck
    have C0 := Lib.hid c0
    have C1 := Lib.hid c1
    clear h hb hks hn hkl hm hP hL
    go_enter Try.func19, Try.ntmps19
    go_wp2_with fail
    go_loopg [10, 12] n (fun q l i wr => ∃ j, OnAt n i q j ∧ Tch [] w wr ∧ OwnTexts wr w.heap.size l ((((ks.take j).filter P).take m).map (dropT p.size)))
    case atStart => exact ⟨0, ⟨Nat.zero_le _, rfl, rfl⟩, Tch.refl _ _, by rw [List.take_zero, List.filter_nil, List.take_nil]; exact ownVals_nil _ _ _⟩
    case round =>
      obtain ⟨j, ⟨hj, rfl, rfl⟩, hT, hO⟩ := hrel
      rename_i l
      have hc := OwnVals.cap_ hO
      rw [List.length_map, List.length_map] at hc
      obtain ⟨la, lcap, rfl, _, _⟩ := hc
      have T2 := Lib.hid hT
      have d0 := cell_old hT C0.out
      have d1 := cell_old hT C1.out
      have dk := cell_old hT CK.out
      have hlen := filt_len ks P m j
      rw [HN.out] at hlen
      obtain ⟨ls, hls⟩ : ∃ ls, ((ks.take j).filter P).take m = ls := ⟨_, rfl⟩
      rw [hls] at hO hlen ⊢
      have HLS := Lib.hid hls
      obtain ⟨cnt, hcnt⟩ : ∃ cnt, ls.length = cnt := ⟨_, rfl⟩
      rw [hcnt] at hO hlen ⊢
      have HCNT := Lib.hid hcnt
      have O2 := Lib.hid hO
      clear hT hO hls hcnt c0 c1 ck
      have fin : Hid ((j = n ∨ m ≤ cnt) → ls = (ks.filter P).take m) := by
        rintro (e | e)
        · have h1 : ks.take j = ks := List.take_of_length_le (by have := HN.out; omega)
          have h2 := HLS.out
          rw [h1] at h2; exact h2.symm
        · have h2 := HLS.out
          have := take_filter_full ks P m j (by rw [h2, HCNT.out]; exact e)
          rw [h2] at this; exact this
      by_cases hjn : j < n
      · by_cases hcm : cnt < m
        · have hcm' : (cnt : Int) < most := by have := HM.out; omega
          have hx : ks[j]? = some (ks[j]'(by have := HN.out; omega)) := List.getElem?_eq_getElem _
          generalize ks[j]'(by have := HN.out; omega) = k at *
          obtain ⟨kb, rfl, hcell0⟩ := KA.out j k hx
          have hcell := cell_old T2.out hcell0
          have HX := Lib.hid hx
          have hstep : Hid (((ks.take (j + 1)).filter P).take m = if P k = true ∧ ls.length < m then ls ++ [k] else ls) := by
            have := take_filter_step ks P m j k hx
            rw [HLS.out] at this
            exact this
          have hpk : Hid (P k = (begins k (p ++ pre) && blt after (dropT p.size k))) := by show _ = _; rw [← HP.out]
          have CB : Hid (∀ W, Calls Try.prog 10 #[.string k, .string (p ++ pre)] W fun e w' => e = .returned (.bool (begins k (p ++ pre))) ∧ W = w') := fun W => begins_any W _ _
          clear hx hcell0
          cases hbb : begins k (p ++ pre) with
          | false =>
            rw [hbb] at CB hpk
            go_wp2_with (go_at_call 10; refine (CB.out _).mono ?_; rintro e w' ⟨rfl, rfl⟩)
            go_roundg (n - (j + 1))
            case measure => omega
            case rel =>
              refine ⟨j + 1, ⟨by omega, by go_num, rfl⟩, T2.out, ?_⟩
              rw [hstep.out, if_neg (by rw [hpk.out]; simp)]
              exact O2.out
          | true =>
            have hks := begins_size (begins_append hbb)
            rw [hbb] at CB hpk
            have hbg := bgt_toList (dropT p.size k) after
            have hdr : dropT p.size k = k.extract p.size k.size := rfl
            rw [hdr] at hbg hpk
            rcases hx1 : Op.bytesLess (k.extract p.size k.size).toList after.toList with _ | _
            · rcases hx2 : ((k.extract p.size k.size).toList == after.toList) with _ | _
              · rw [hx1, hx2] at hbg
                have hP1 : Hid (P k = true) := by show _ = _; rw [hpk.out, ← hbg]; rfl
                clear hbg
                go_wp2_with (first
                  | (go_at_call 10; refine (CB.out _).mono ?_; rintro e w' ⟨rfl, rfl⟩)
                  | (at_builtin; (with_reducible refine wc_append_of (x := .tmp 64) (y := .tmp 68) (u := .slice (some ⟨wr.heap.size, 0, none⟩) 1 1) (m := [.string (k.extract p.size k.size)]) txtT (by decide) (OwnVals.kept O2.out ((Tch.refl [] _).alloc _) (by simp)) (by have := T2.out.size; simp; omega) (by rw [List.length_map, List.length_map, HCNT.out, List.length_singleton]; omega) rfl rfl ?_ ?_ (one_valsV (x := .string (k.extract p.size k.size)) (cell_one_at _ _ _)) (one_str _) ?_); exact rfl; exact rfl; intro v5 w5 ho ht; go_frame; have O5 := Lib.hid ho; have T5 := Lib.hid ht; clear ho ht))
                go_roundg (n - (j + 1))
                case measure => omega
                case rel =>
                  refine ⟨j + 1, ⟨by omega, by go_num, rfl⟩, ?_, ?_⟩
                  · exact own_on (T2.out.alloc _) (OwnVals.kept O2.out ((Tch.refl [] _).alloc _) (by simp)) (Nat.le_refl _) T5.out
                  · rw [hstep.out, if_pos ⟨hP1.out, by rw [HCNT.out]; exact hcm⟩]
                    have := O5.out
                    unfold OwnTexts
                    rw [List.map_append, List.map_append]
                    exact this
              · rw [hx1, hx2] at hbg
                have hP1 : Hid (P k = false) := by show _ = _; rw [hpk.out, ← hbg]; rfl
                clear hbg
                go_wp2_with (go_at_call 10; refine (CB.out _).mono ?_; rintro e w' ⟨rfl, rfl⟩)
                go_roundg (n - (j + 1))
                case measure => omega
                case rel =>
                  refine ⟨j + 1, ⟨by omega, by go_num, rfl⟩, T2.out, ?_⟩
                  rw [hstep.out, if_neg (by rw [hP1.out]; simp)]
                  exact O2.out
            · rw [hx1] at hbg
              have hP1 : Hid (P k = false) := by show _ = _; rw [hpk.out, ← hbg]; simp
              clear hbg
              go_wp2_with (go_at_call 10; refine (CB.out _).mono ?_; rintro e w' ⟨rfl, rfl⟩)
              go_roundg (n - (j + 1))
              case measure => omega
              case rel =>
                refine ⟨j + 1, ⟨by omega, by go_num, rfl⟩, T2.out, ?_⟩
                rw [hstep.out, if_neg (by rw [hP1.out]; simp)]
                exact O2.out
        · have hcm' : ¬ (cnt : Int) < most := by have := HM.out; omega
          go_wp2_with fail
          go_ret2
          have := fin.out (.inr (by omega))
          rw [← HL.out, ← this]
          exact ⟨T2.out, _, rfl, O2.out⟩
      · go_wp2_with fail
        go_ret2
        have := fin.out (.inl (by omega))
        rw [← HL.out, ← this]
        exact ⟨T2.out, _, rfl, O2.out⟩

/-- Books one behind the other. -/
theorem BookOut.trans {w w1 w2 : World} {g : Nat} {kv vv kv1 vv1 : Value} {B2 : List Kv} (t1 : Tch (g :: vv.ownBlock.toList) w w1) (e1 : (kv1 = kv ∧ vv1 = vv) ∨ ∀ k ∈ kv1.ownBlock.toList ++ vv1.ownBlock.toList, w.heap.size ≤ k)
    (h2 : BookOut w1 g kv1 vv1 B2 w2) : BookOut w g kv vv B2 w2 := by
  obtain ⟨kv2, vv2, k1, k2, k3⟩ := h2
  have hs := t1.size
  have t12 : Tch ((g :: vv.ownBlock.toList) ++ (g :: vv1.ownBlock.toList)) w w2 := (t1.mono fun k hk => List.mem_append_left _ hk).trans (k2.mono fun k hk => List.mem_append_right _ hk)
  refine ⟨kv2, vv2, k1, t12.drop fun k hk => ?_, ?_⟩
  · rcases List.mem_append.1 hk with h | h
    · exact .inl h
    · rcases List.mem_cons.1 h with h | h
      · exact .inl (by rw [h]; exact List.mem_cons_self)
      · rcases e1 with ⟨_, e⟩ | e
        · rw [e] at h; exact .inl (List.mem_cons_of_mem _ h)
        · exact .inr (e k (List.mem_append_right _ h))
  · rcases k3 with ⟨rfl, rfl⟩ | k3
    · exact e1
    · exact .inr fun k hk => Nat.le_trans hs (k3 k hk)
theorem BookOut.from {w w1 w2 : World} {g : Nat} {kv vv : Value} {B2 : List Kv} (t1 : Tch [] w w1) (h2 : BookOut w1 g kv vv B2 w2) : BookOut w g kv vv B2 w2 := BookOut.trans (t1.mono (by simp)) (.inl ⟨rfl, rfl⟩) h2
theorem BookAt.own_lt {w : World} {g : Nat} {kv vv : Value} {B : List Kv} (h : BookAt w g kv vv B) : ∀ k ∈ vv.ownBlock.toList, k < w.heap.size := fun k hk => (OwnVals.lt h.hv k hk).2
theorem BookAt.own_type {w : World} {g : Nat} {kv vv : Value} {B : List Kv} (h : BookAt w g kv vv B) : ∀ k ∈ vv.ownBlock.toList, ∃ c, w.heap[k]? = some (.cells c 9) := by
  intro k hk
  rcases OwnVals.shape h.hv with ⟨e, _⟩ | ⟨g', cap, cur, e, _, h2, _⟩
  · rw [e] at hk; simp [Value.ownBlock] at hk
  · rw [e] at hk
    have : k = g' := by simpa [Value.ownBlock] using hk
    subst this
    exact ⟨cur, h2⟩
/-- A view's block is none of a book's. -/
theorem RViewAt.sep {w : World} {b g g2 : Nat} {p : ByteArray} {kv vv : Value} {B : List Kv} (h : RViewAt w b g p) (hb : BookAt w g2 kv vv B) : b ∉ g2 :: vv.ownBlock.toList := by
  intro hm
  rcases List.mem_cons.1 hm with rfl | hm
  · have h1 := hb.hg
    unfold RViewAt at h
    rw [h] at h1; cases h1
  · obtain ⟨c, hc⟩ := hb.own_type _ hm
    unfold RViewAt at h
    rw [h] at hc; cases hc
set_option maxRecDepth 20000 in
set_option maxHeartbeats 2000000 in
theorem rclear_any {w : World} {b g : Nat} {p : ByteArray} {kv vv : Value} {B : List Kv} (h : RViewAt w b g p) (hp : p.size ≤ 100) (hb : BookAt w g kv vv B) (hsz : ∀ e ∈ B, e.1.size ≤ 198) (pre : ByteArray) (hs1 : pre.size ≤ 1000000000000000000) :
    Calls Try.prog 22 #[.pointer (some ⟨b, 0, none⟩), .string pre] w fun e w' => e = .returned (.int .i64 (vlist B p pre ByteArray.empty (B.length + 1)).length) ∧ BookOut w g kv vv (vclear B p (vlist B p pre ByteArray.empty (B.length + 1))) w' := by
  have c0 := h.c0
  have hck := hb.hk.cap_
  rw [List.length_map, List.length_map] at hck
  obtain ⟨ka, kcap, hkv, _, _⟩ := hck
  have ck : w.cell? ⟨g, 0, none⟩ = some kv := (cell_of_row w g 0 _ _ _ hb.hg).trans (by simp)
  rw [hkv] at ck
  have hBl := hb.len
  have CL := rlist_any h hp hb pre ByteArray.empty hs1 ((B.length : Int) + 1)
  rw [if_neg (by omega), if_neg (by omega), show ((B.length : Int) + 1).toNat = B.length + 1 by omega] at CL
  have hk := vlist_key (B := B) hsz (p := p) (pre := pre) (after := ByteArray.empty) (m := B.length + 1)
  have hlen : (vlist B p pre ByteArray.empty (B.length + 1)).length ≤ 100000 := by
    unfold vlist
    rw [List.length_map]
    exact Nat.le_trans (length_listed _ _ _ _) hb.len
  generalize vlist B p pre ByteArray.empty (B.length + 1) = ks at *
  generalize B.length = bl at *
  have HK := Lib.hid hk
  have HV := Lib.hid h
  have HB := Lib.hid hb
  have CL := Lib.hid CL
  generalize hn : ks.length = n at *
  have HN := Lib.hid hn
  clear h hb hk hn hkv
  go_enter Try.func22, Try.ntmps22
  go_wp2_with fail
  refine CL.out.mono ?_
  rintro e w1 ⟨t1, v, rfl, ho⟩
  have hc := OwnVals.cap_ ho
  rw [List.length_map, HN.out] at hc
  obtain ⟨la, lcap, rfl, _, _⟩ := hc
  have O1 := Lib.hid ho
  have T1 := Lib.hid t1
  clear t1 ho CL
  go_wp2_with fail
  go_loopg [7] n (fun q i wr => ∃ j, OnAt n i q j ∧ BookOut w1 g kv vv (vclear B p (ks.take j)) wr ∧ OwnTexts wr w.heap.size (.slice la n lcap) ks)
  case atStart => exact ⟨0, ⟨Nat.zero_le _, rfl, rfl⟩, ⟨kv, vv, by rw [List.take_zero]; exact HB.out.old T1.out, Tch.refl _ _, .inl ⟨rfl, rfl⟩⟩, O1.out⟩
  case round =>
    obtain ⟨j, ⟨hj, rfl, rfl⟩, ⟨kv1, vv1, hb1, t1, e1⟩, hOT⟩ := hrel
    have O2 := Lib.hid hOT
    have B1 := Lib.hid hb1
    have T2 := Lib.hid t1
    have E1 := Lib.hid e1
    clear hOT hb1 t1 e1
    by_cases hjn : j < n
    · have hx : ks[j]? = some (ks[j]'(by have := HN.out; omega)) := List.getElem?_eq_getElem _
      generalize ks[j]'(by have := HN.out; omega) = k at *
      obtain ⟨gl, cap', e2, hg, hcell, _⟩ := OwnVals.at_ O2.out (j := j) (x := .string k) (by rw [List.getElem?_map, hx]; rfl)
      rw [List.length_map, HN.out] at e2
      cases e2
      have hvk := HK.out k (List.mem_of_getElem? hx)
      have hV1 : RViewAt w1 b g p := HV.out.touch T1.out (by simp)
      have hks : k.size ≤ 1000000000000000000 := by unfold vkey at hvk; simp only [decide_eq_true_eq] at hvk; omega
      have CD := rdel_any (hV1.touch T2.out (hV1.sep (HB.out.old T1.out))) hp B1.out k hks
      unfold vdel at CD
      rw [if_pos hvk] at CD
      have CD := Lib.hid CD
      have HX := Lib.hid hx
      generalize is (vclear B p (ks.take j)) (p ++ k) = bb at *
      clear hx hvk hV1
      go_wp2_with fail
      refine CD.out.mono ?_
      rintro e w5 ⟨rfl, h5⟩
      have H5 := Lib.hid h5
      clear h5
      go_wp2_with fail
      go_roundg (n - (j + 1))
      case measure => omega
      case rel =>
        refine ⟨j + 1, ⟨by omega, by go_num, rfl⟩, ?_, ?_⟩
        · rw [List.take_add_one, HX.out, Option.toList_some, vclear_snoc]
          exact BookOut.trans T2.out E1.out H5.out
        · obtain ⟨_, _, _, t5, _⟩ := H5.out
          refine OwnVals.kept O2.out t5 fun k2 hk2 => ?_
          have hkk : k2 = gl := by simpa [Value.ownBlock] using hk2.symm
          subst hkk
          intro hm
          have hlt : k2 < w1.heap.size := (OwnVals.lt O1.out k2 (by simp [Value.ownBlock])).2
          rcases List.mem_cons.1 hm with e | hm
          · obtain ⟨_, _, cur, e3, _, h3, _⟩ := (OwnVals.shape O2.out).resolve_left (by simp)
            cases e3
            rw [e, B1.out.hg] at h3
            cases h3
          · rcases E1.out with ⟨_, e4⟩ | e4
            · rw [e4] at hm
              have := HB.out.own_lt k2 hm
              omega
            · have := e4 k2 (List.mem_append_right _ hm)
              omega
    · go_wp2_with fail
      go_ret
      have e3 : ks.take j = ks := List.take_of_length_le (by have := HN.out; omega)
      refine ⟨rfl, BookOut.from T1.out ⟨kv1, vv1, ?_, T2.out, E1.out⟩⟩
      have := B1.out
      rwa [e3] at this
set_option maxRecDepth 20000 in
set_option maxHeartbeats 1000000 in
theorem rsub_any {w : World} {b g : Nat} {p : ByteArray} (h : RViewAt w b g p) (hp : p.size ≤ 100) (key : ByteArray) (hk : key.size ≤ 1000000000000000000) :
    Calls Try.prog 23 #[.pointer (some ⟨b, 0, none⟩), .string key] w fun e w' => Tch [] w w' ∧ ((100 < p.size + key.size ∧ e = .returned (.tuple #[.pointer none, .int .i64 2])) ∨ (p.size + key.size ≤ 100 ∧ ∃ x, e = .returned (.tuple #[.pointer (some ⟨x, 0, none⟩), .int .i64 0]) ∧ RViewAt w' x g (p ++ key) ∧ w.heap.size ≤ x)) := by
  have c0 := h.c0
  have c1 := h.c1
  clear h
  by_cases hbig : 100 < p.size + key.size
  · have h2 : 100 < (p.size : Int) + key.size := by omega
    go_enter Try.func23, Try.ntmps23
    go_wp2_with fail
    go_ret2
    exact ⟨Tch.refl _ _, .inl ⟨hbig, rfl⟩⟩
  · have h2 : ¬ (100 < (p.size : Int) + key.size) := by omega
    go_enter Try.func23, Try.ntmps23
    go_wp2_with fail
    (refine wp_region_walk (C := fun w' => ∃ n, w' = World.drewN w n) 10 (by kernel_rfl) (by kernel_rfl) ⟨1, rfl⟩ ?_; simp only [List.take_succ_cons, List.take_zero, List.drop_succ_cons, List.drop_zero]; (repeat (first | fail | go_big_quiet_step (fail))); refine wpQuiet_nil ?_; intro _ hw'; obtain ⟨nq, hw''⟩ := hw'; subst hw'')
    go_wp2_with fail
    go_ret2
    exact ⟨(tch_drewN w nq).trans ((Tch.refl _ _).alloc _), .inr ⟨by omega, _, rfl, heap_alloc_new _ _, Nat.le_refl _⟩⟩
set_option maxRecDepth 20000 in
theorem rmem_any (w : World) : Calls Try.prog 6 #[] w fun e w' => Tch [] w w' ∧ ∃ b g, e = .returned (.pointer (some ⟨b, 0, none⟩)) ∧ RViewAt w' b g ByteArray.empty ∧ BookAt w' g (.slice none 0 0) (.slice none 0 0) [] ∧ w.heap.size ≤ b ∧ w.heap.size ≤ g := by
  go_enter Try.func6, Try.ntmps6
  go_wp2_with fail
  go_ret
  refine ⟨((Tch.refl _ _).alloc _).alloc _, w.heap.size + 1, w.heap.size, ?_, ?_, ⟨?_, ownVals_nil _ _ _, ownVals_nil _ _ _, by simp [Value.ownBlock], List.Pairwise.nil, by simp⟩, by omega, Nat.le_refl _⟩
  · simp
  · unfold RViewAt
    have e : w.heap.size + 1 = (w.alloc (.cells #[.slice none 0 0, .slice none 0 0] 44)).heap.size := by simp
    rw [e]
    exact heap_alloc_new _ _
  · exact ((Tch.refl [] _).alloc _).heap (heap_alloc_new w _) (by simp)
end Go.Proofs.Ytcdgeeoajhbneaa
