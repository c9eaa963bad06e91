/-
  All that is in the log goes home: package wal's Checkpoint.
-/
import Derived.Test.YthbaipljlbddcaaGreatLogG
namespace Go.Proofs.YthbaipljlbddcaaGreat
open Go.RowKit Go.Cib
theorem fnsT : OneT Tryz.prog 118 87 .nilFunc 8 := .of (by kernel_rfl) (by kernel_rfl) rfl
abbrev fnHome (Bl b : Nat) : Value := .func (.func 66) #[] #[.pointer (some ⟨Bl, 0, none⟩), .pointer (some ⟨b, 0, none⟩)]
abbrev fnFlush (d : Nat) : Value := .func (.func 42) #[.pointer (some ⟨d, 0, none⟩)] #[]
abbrev fnRaise (Bl : Nat) : Value := .func (.func 67) #[] #[.pointer (some ⟨Bl, 0, none⟩)]
/-- What the steps of a checkpoint keep. -/
structure ChkR (W w' : World) (g d L M V : Nat) (S S' : LogS) : Prop where
  at_ : LogAt w' g d L M V S'
  same : ∃ D gn, S' = { S with disk := D, gen := gn } ∧ gn < 18446744073709551616
  tch : Tch [g, d, L, M] W w'
set_option maxRecDepth 20000 in
theorem home_step {g d L M V Bl b p : Nat} {S : LogS} {W : World} {x : Page} (cl : W.cell? ⟨Bl, 0, none⟩ = some (.pointer (some ⟨g, 0, none⟩))) (hBl : Bl ∉ [g, d, L, M]) (cb : W.cell? ⟨b, 0, none⟩ = some (.int .i64 p)) (hb : b ∉ [g, d, L, M]) (hx : S.over p = some x) (hl : S.log ≤ 4000) (hp : p < 16384) :
    StepV Tryz.prog (fun S' w' => ChkR W w' g d L M V S S') (fnHome Bl b) (LogS.homeStep (p, x)) :=
  ⟨_, _, _, rfl, fun _ _ => rfl, fun S' w h => by
    obtain ⟨D, gn, rfl, hgn⟩ := h.same
    refine (chk1_any h.at_ (cell_touch h.tch cl hBl) (cell_touch h.tch cb hb) hx hl hp hgn).mono ?_
    rintro e w' ⟨q1, q2, q3⟩
    exact ⟨q1, q2, ⟨_, _, rfl, hgn⟩, h.tch.trans (q3.mono (by simp))⟩⟩
set_option maxRecDepth 20000 in
theorem flush_step {g d L M V : Nat} {S : LogS} {W : World} : StepV Tryz.prog (fun S' w' => ChkR W w' g d L M V S S') (fnFlush d) LogS.flushStep :=
  ⟨_, _, _, rfl, fun _ _ => rfl, fun S' w h => by
    obtain ⟨D, gn, rfl, hgn⟩ := h.same
    refine (flush_any h.at_.hD).mono ?_
    rintro e w' ⟨q1, q2, q3⟩
    exact ⟨q1, h.at_.disk q2 q3, ⟨_, _, rfl, hgn⟩, h.tch.trans (q3.mono (by simp))⟩⟩
set_option maxRecDepth 20000 in
theorem raise_step {g d L M V Bl : Nat} {S : LogS} {W : World} (cl : W.cell? ⟨Bl, 0, none⟩ = some (.pointer (some ⟨g, 0, none⟩))) (hBl : Bl ∉ [g, d, L, M]) (hl : S.log ≤ 4000) (hp : S.pages ≤ 16384) :
    StepV Tryz.prog (fun S' w' => ChkR W w' g d L M V S S') (fnRaise Bl) LogS.raise :=
  ⟨_, _, _, rfl, fun _ _ => rfl, fun S' w h => by
    obtain ⟨D, gn, rfl, hgn⟩ := h.same
    refine (chk2_any h.at_ (cell_touch h.tch cl hBl) (by intro e; apply hBl; simp [e]) hl hp).mono ?_
    rintro e w' ⟨q1, q2, q3⟩
    exact ⟨q1, q2, ⟨_, _, rfl, Nat.mod_lt _ (by decide)⟩, h.tch.trans (q3.mono (by simp))⟩⟩
/-- What the second loop has gathered. -/
structure GathR (W wr : World) (Bl : Nat) (l : List Int) (j : Nat) (bs : List Nat) (v : Value) : Prop where
  len : bs.length = j
  own : OwnVals wr W.heap.size 87 v (bs.map (fnHome Bl))
  box : ∀ (i b : Nat) (p : Int), bs[i]? = some b → l[i]? = some p → wr.heap[b]? = some (.cells #[.int .i64 p] 3) ∧ W.heap.size ≤ b
  tch : Tch [] W wr
theorem GathR.next {W wr w5 w6 w7 : World} {Bl j b : Nat} {l : List Int} {bs : List Nat} {v v' : Value} {p : Int} (h : GathR W wr Bl l j bs v) (hp : l[j]? = some p) (t5 : Tch [] wr w5) (hb : w5.heap[b]? = some (.cells #[.int .i64 p] 3)) (hbW : W.heap.size ≤ b) (t6 : Tch [] w5 w6)
    (o7 : OwnVals w7 W.heap.size 87 v' (bs.map (fnHome Bl) ++ [fnHome Bl b])) (t7 : Tch v.ownBlock.toList w6 w7) : GathR W w7 Bl l (j + 1) (bs ++ [b]) v' := by
  have own6 := (h.own.kept t5 (by simp)).kept t6 (by simp)
  refine ⟨by rw [List.length_append, h.len]; rfl, by simpa using o7, ?_, tch_own (h.tch.trans (t5.trans t6)) t7 (fun k hk => (own6.lt k hk).1)⟩
  intro i c q hi hq
  rcases Nat.lt_or_ge i bs.length with hlt | hge
  · rw [List.getElem?_append_left hlt] at hi
    obtain ⟨g1, g2⟩ := h.box i c q hi hq
    have g3 := t6.heap (t5.heap g1 (by simp)) (by simp)
    exact ⟨t7.heap g3 (own6.ne g3 (by decide)), g2⟩
  · rw [List.getElem?_append_right hge, h.len] at hi
    have hi0 : i - j = 0 := by
      rcases Nat.eq_zero_or_pos (i - j) with h0 | h0
      · exact h0
      · rw [List.getElem?_eq_none (by simp; omega)] at hi; cases hi
    have hij : i = j := by have := h.len; omega
    subst hij
    rw [hi0] at hi
    simp at hi
    subst hi
    rw [hp] at hq
    cases hq
    have g3 := t6.heap hb (by simp)
    exact ⟨t7.heap g3 (own6.ne g3 (by decide)), hbW⟩

set_option maxRecDepth 20000 in
set_option maxHeartbeats 2000000 in
theorem checkpoint_any {w : World} {g d L M V : Nat} {S : LogS} (h : LogAt w g d L M V S) (ok : S.Ok) :
    Calls Tryz.prog 29 #[.pointer (some ⟨g, 0, none⟩)] w fun e w' =>
      e = .returned (.int .i64 S.checkpoint.1) ∧ LogAt w' g d L M V S.checkpoint.2 ∧ Tch [g, d, L, M, V] w w' := by
  obtain ⟨W1, hW1⟩ : ∃ W1, w.alloc (.cells #[.pointer (some ⟨g, 0, none⟩)] 41) = W1 := ⟨_, rfl⟩
  have t1 : Tch [] w W1 := by rw [← hW1]; exact (Tch.refl _ _).alloc _
  have hbl : W1.heap[w.heap.size]? = some (.cells #[.pointer (some ⟨g, 0, none⟩)] 41) := by rw [← hW1]; exact heap_alloc_new _ _
  have h1 := h.touch t1 (by simp) (by simp) (by simp) (by simp) (by simp)
  have cl : W1.cell? ⟨w.heap.size, 0, none⟩ = some (.pointer (some ⟨g, 0, none⟩)) := by rw [cell_of_row W1 _ 0 _ _ _ hbl]; rfl
  have c7 := h1.cell 7 rfl
  have c4 := h1.cell 4 rfl
  have c6 := h1.cell 6 rfl
  have HW1 := Lib.hid hW1
  have H1 := Lib.hid h1
  have T1 := Lib.hid t1
  have HLOG := Lib.hid h
  have L1 := Lib.hid (lt_of_heap hbl)
  have OKK := Lib.hid ok
  clear hW1 t1 hbl h ok
  cases hd : S.dead with
  | true =>
    rw [hd] at c7
    have e : S.checkpoint = (6, S) := by unfold LogS.checkpoint; rw [if_pos hd]
    have E := Lib.hid e
    clear e hd h1
    go_enter Tryz.func29, Tryz.ntmps29
    go_upto_region 1 with fail
    rw [HW1.out]
    go_wp2_with fail
    go_ret
    rw [E.out]
    exact ⟨rfl, H1.out, T1.out.mono (by simp)⟩
  | false =>
    rw [hd] at c7
    by_cases hu : S.used = 0
    · have hu' : ((S.used : Int) == 0) = true := by simp [hu]
      have e : S.checkpoint = (0, S) := by unfold LogS.checkpoint; rw [if_neg (by simp [hd]), if_pos hu]
      have E := Lib.hid e
      clear e hd h1 hu
      go_enter Tryz.func29, Tryz.ntmps29
      go_upto_region 1 with fail
      rw [HW1.out]
      go_wp2_with fail
      go_ret
      rw [E.out]
      exact ⟨rfl, H1.out, T1.out.mono (by simp)⟩
    · have hu' : ((S.used : Int) == 0) = false := by simp [hu]
      have EC := Lib.hid (LogS.runS_check S hd hu)
      clear hd h1 hu
      go_enter Tryz.func29, Tryz.ntmps29
      go_upto_region 1 with fail
      rw [HW1.out]
      go_wp2_with ((with_reducible apply wc_range uMapPage H1.out.hV); exact rfl; intro w3 cnt t3 sz3 hit; go_frame; have HT3 := Lib.hid t3; have HIT := Lib.hid hit; have HS3 := Lib.hid sz3; clear t3 hit sz3)
      have hr0 : KeyRel W1 V W1.heap.size S.over cnt (.slice none 0 0) w3 := ⟨fun _ => none, [], HIT.out, ownInts_nil _ _ _, by simp, by simp, by simp, HT3.out⟩
      have HREL := Lib.hid hr0
      clear hr0 c6 c4 c7
      go_loopg [3] cnt (fun k v wr => KeyRel W1 V W1.heap.size S.over k v wr)
      case atStart => exact HREL.out
      case round =>
        obtain ⟨f, l, hi, ho, hn, hm, hg, ht⟩ := hrel
        have hl := keys_len1 OKK.out.over OKK.out.pages2 hn hm hg
        have I1 := Lib.hid hi
        have O1 := Lib.hid ho
        have N1 := Lib.hid hn
        have M1 := Lib.hid hm
        have G1 := Lib.hid hg
        have TR := Lib.hid ht
        clear hi ho hn hm hg ht
        go_upto_region 13 with (first | ((with_reducible apply wc_next keyI.inj I1.out); exact rfl; (intro hgf; have HGF := Lib.hid hgf; clear hgf; go_frame); rotate_left; (intro kk v w4 cnt4 hf hg ht hen hlt hit; obtain ⟨s, hs, rfl⟩ := Option.map_eq_some_iff.1 hf; have HS := Lib.hid hs; have HG := Lib.hid hg; have HT := Lib.hid ht; have HEN := Lib.hid hen; have HLT := Lib.hid hlt; have HI := Lib.hid hit; clear hf hs hg ht hen hlt hit; go_frame; (try simp only [kInt])); rotate_left) | ((with_reducible apply wc_entry HEN.out); exact rfl; go_frame; (try simp only [kInt])) | (go_at_call 65; refine (sort_any _ _ _ _ O1.out (by omega)).mono ?_; rintro e w6 ⟨rfl, hq1, hq2⟩; have HQ1 := Lib.hid hq1; have HQ2 := Lib.hid hq2; clear hq1 hq2) | ((with_reducible apply wc_append_int intsT (own_iterA O1.out I1.out HT.out _) (by have := TR.out.size; have := HT.out.size; simp; omega) (by omega)); exact rfl; exact rfl; exact rfl; exact rfl; exact (World.cell?_alloc_new _ _ _ _).trans rfl; intro v6 w6 ho6 ht6; go_frame; have HO6 := Lib.hid ho6; have HT6 := Lib.hid ht6; clear ho6 ht6))
        · have hgf := map_arr_inj HGF.out
          have hm2 : ∀ k, k ∈ l ↔ (S.over k).isSome = true := by rw [← hgf]; exact M1.out
          obtain ⟨e1, e2⟩ := sorted_keys S.over S.pages OKK.out.over l N1.out hm2
          obtain ⟨ia, icap, hv, hI⟩ := HQ2.out
          rw [e1, keys_kept] at hI
          rw [e2, keys_kept, List.length_map] at hv
          subst hv
          have hT6 : Tch [] W1 w6 := tch_own TR.out HQ1.out (fun k hk => (O1.out.lt k hk).1)
          have h6 := H1.out.touch hT6 (by simp) (by simp) (by simp) (by simp) (by simp)
          have hL6 : w.heap.size < w6.heap.size := Nat.lt_of_lt_of_le L1.out hT6.size
          obtain ⟨m, hm⟩ : ∃ m, S.kept.length = m := ⟨_, rfl⟩
          have hmn : m ≤ 16384 := by have := kept_len S; have := OKK.out.pages2; omega
          rw [hm]
          have cl6 := cell_old hT6 cl
          have HM := Lib.hid hm
          have H6 := Lib.hid h6
          have T6 := Lib.hid hT6
          have II := Lib.hid hI
          have CL6 := Lib.hid cl6
          clear HQ1 HQ2 HGF I1 O1 N1 M1 G1 TR HREL HIT HT3 HS3 e1 e2 hm2 hgf hI hT6 h6 hm cl cl6 H1 HW1
          go_wp2_with fail
          go_loopg [5, 40] m (fun q v i wr => ∃ j bs, OnAt m i q j ∧ GathR w6 wr w.heap.size (S.kept.map fun q => (q.1 : Int)) j bs v)
          case atStart => exact ⟨0, [], ⟨Nat.zero_le _, rfl, rfl⟩, ⟨rfl, ownVals_nil _ _ _, by simp, Tch.refl _ _⟩⟩
          case round =>
            obtain ⟨j, bs, ⟨hj, rfl, rfl⟩, hgr⟩ := hrel
            have GR := Lib.hid hgr
            clear hgr
            by_cases hjm : j < m
            · obtain ⟨p, hp⟩ : ∃ p, (S.kept.map fun q => (q.1 : Int))[j]? = some p := ⟨_, List.getElem?_eq_getElem (by rw [List.length_map, HM.out]; exact hjm)⟩
              obtain ⟨ib, io, rfl, hc⟩ := II.out j p hp
              have HP := Lib.hid hp
              have hc' := cell_old GR.out.tch hc
              clear hp hc
              go_upto_region 17 with fail
              obtain ⟨w5, hw5⟩ : ∃ w5, wr.alloc (.cells #[.int .i64 p] 3) = w5 := ⟨_, rfl⟩
              have t5 : Tch [] wr w5 := by rw [← hw5]; exact (Tch.refl _ _).alloc _
              have b5 : w5.heap[wr.heap.size]? = some (.cells #[.int .i64 p] 3) := by rw [← hw5]; exact heap_alloc_new _ _
              have hWr := GR.out.tch.size
              have T5 := Lib.hid t5
              have B5 := Lib.hid b5
              have O5 : Hid (OwnVals (w5.alloc (.cells #[fnHome w.heap.size wr.heap.size] 87)) w6.heap.size 87 u5 (bs.map (fnHome w.heap.size))) := (GR.out.own.kept t5 (by simp)).kept ((Tch.refl [] _).alloc _) (by simp)
              have V5 : Hid (ValsAt (w5.alloc (.cells #[fnHome w.heap.size wr.heap.size] 87)) (some ⟨w5.heap.size, 0, none⟩) [fnHome w.heap.size wr.heap.size]) := valsAt_row (heap_alloc_new _ _)
              have hmf : ∀ (fn : Fn) (first cap : Array Value) (w : World), (Instr.makeFunc fn first cap).run Tryz.prog w = .ok (.func fn first cap) w := fun _ _ _ _ => rfl
              have hbl : bs.length = j := GR.out.len
              have hw6 := t5.size
              rw [hw5]
              clear hw5 t5 b5 hc'
              go_wp2_with ((with_reducible apply wc_append_vals fnsT (by decide) (m := [fnHome w.heap.size wr.heap.size]) O5.out (by simp; omega) (by simp; omega)); exact rfl; exact rfl; exact rfl; exact rfl; exact V5.out; (intro u hu; simp at hu; subst hu; rfl); intro v7 w7 ho7 ht7; go_frame; have HO7 := Lib.hid ho7; have HT7 := Lib.hid ht7; clear ho7 ht7)
              go_roundg (m - (j + 1))
              case measure => omega
              case rel => exact ⟨j + 1, _, ⟨by omega, by go_num, rfl⟩, GR.out.next HP.out T5.out B5.out hWr ((Tch.refl [] _).alloc _) HO7.out HT7.out⟩
            · have hjm' : j = m := by omega
              subst hjm'
              have hbl : bs.length = j := GR.out.len
              have hr := H6.out.touch GR.out.tch (by simp) (by simp) (by simp) (by simp) (by simp)
              have c0 := hr.cell 0 rfl
              have clr := cell_old GR.out.tch CL6.out
              have HR := Lib.hid hr
              have O5 : Hid (OwnVals (wr.alloc (.cells #[fnFlush d, fnRaise w.heap.size] 87)) w6.heap.size 87 u5 (bs.map (fnHome w.heap.size))) := GR.out.own.kept ((Tch.refl [] _).alloc _) (by simp)
              have V5 : Hid (ValsAt (wr.alloc (.cells #[fnFlush d, fnRaise w.heap.size] 87)) (some ⟨wr.heap.size, 0, none⟩) [fnFlush d, fnRaise w.heap.size]) := valsAt_row (heap_alloc_new _ _)
              have hmf : ∀ (fn : Fn) (first cap : Array Value) (w : World), (Instr.makeFunc fn first cap).run Tryz.prog w = .ok (.func fn first cap) w := fun _ _ _ _ => rfl
              have hWr := GR.out.tch.size
              have CALL : Hid (∀ v7 w7, OwnVals w7 w6.heap.size 87 v7 (bs.map (fnHome w.heap.size) ++ [fnFlush d, fnRaise w.heap.size]) → Tch u5.ownBlock.toList (wr.alloc (.cells #[fnFlush d, fnRaise w.heap.size] 87)) w7 →
                  Calls Tryz.prog 39 #[v7] w7 fun e w' => e = .returned (.int .i64 (runS S (S.kept.map LogS.homeStep ++ [LogS.flushStep, LogS.raise])).1) ∧ LogAt w' g d L M V (runS S (S.kept.map LogS.homeStep ++ [LogS.flushStep, LogS.raise])).2 ∧ Tch [g, d, L, M] w6 w' ∧ w'.cell? ⟨w.heap.size, 0, none⟩ = some (.pointer (some ⟨g, 0, none⟩)) ∧ True) := by
                intro v7 w7 ho7 ht7
                obtain ⟨av, vcap, hv7, hvals, hblk⟩ := ho7.vals
                subst hv7
                have T67 : Tch [] w6 w7 := tch_own (GR.out.tch.alloc _) ht7 (fun k hk => (O5.out.lt k hk).1)
                have h7 := H6.out.touch T67 (by simp) (by simp) (by simp) (by simp) (by simp)
                have cl7 := cell_old T67 CL6.out
                have hg6 : g < w6.heap.size := lt_of_heap H6.out.hg
                have hd6 : d < w6.heap.size := lt_of_heap H6.out.hD.hd
                have hl6 : L < w6.heap.size := lt_of_heap H6.out.hD.hL
                have hm6 : M < w6.heap.size := H6.out.hD.hM.lt
                have hold : ∀ b, w6.heap.size ≤ b → b ∉ [g, d, L, M] := by intro b hb; simp; omega
                have hBl : w.heap.size ∉ [g, d, L, M] := by
                  have a1 := lt_of_heap HLOG.out.hg
                  have a2 := lt_of_heap HLOG.out.hD.hd
                  have a3 := lt_of_heap HLOG.out.hD.hL
                  have a4 := HLOG.out.hD.hM.lt
                  simp; omega
                have hfst : ((bs.zip S.kept).map (fun q => (fnHome w.heap.size q.1, LogS.homeStep q.2)) ++ [(fnFlush d, LogS.flushStep), (fnRaise w.heap.size, LogS.raise)]).map (·.1) = bs.map (fnHome w.heap.size) ++ [fnFlush d, fnRaise w.heap.size] := by
                  rw [List.map_append, List.map_map]
                  congr 1
                  have : (bs.zip S.kept).map Prod.fst = bs := List.map_fst_zip (by rw [hbl, HM.out]; exact Nat.le_refl _)
                  conv => rhs; rw [← this]
                  rw [List.map_map]
                  rfl
                have hsnd : ((bs.zip S.kept).map (fun q => (fnHome w.heap.size q.1, LogS.homeStep q.2)) ++ [(fnFlush d, LogS.flushStep), (fnRaise w.heap.size, LogS.raise)]).map (·.2) = S.kept.map LogS.homeStep ++ [LogS.flushStep, LogS.raise] := by
                  rw [List.map_append, List.map_map]
                  congr 1
                  have : (bs.zip S.kept).map Prod.snd = S.kept := List.map_snd_zip (by rw [hbl, HM.out]; exact Nat.le_refl _)
                  conv => rhs; rw [← this]
                  rw [List.map_map]
                  rfl
                have hlen : ((bs.zip S.kept).map (fun q => (fnHome w.heap.size q.1, LogS.homeStep q.2)) ++ [(fnFlush d, LogS.flushStep), (fnRaise w.heap.size, LogS.raise)]).length = (bs.map (fnHome w.heap.size) ++ [fnFlush d, fnRaise w.heap.size]).length := by
                  rw [← hfst, List.length_map]
                rw [← hlen]
                rw [← hfst] at hvals
                rw [← hsnd]
                refine (steps_any (R := fun S' w' => ChkR w7 w' g d L M V S S') ?_ (a := av) (cap := vcap) ?_ (s := S) ⟨h7, ⟨S.disk, S.gen, rfl, OKK.out.gen⟩, Tch.refl _ _⟩ ?_).mono ?_
                · intro q hq
                  rcases List.mem_append.1 hq with hq | hq
                  · obtain ⟨⟨b, p, x⟩, hq1, rfl⟩ := List.mem_map.1 hq
                    obtain ⟨i, hi⟩ := List.getElem?_of_mem hq1
                    obtain ⟨hi1, hi2⟩ := List.getElem?_zip_eq_some.1 hi
                    obtain ⟨g1, g2⟩ := GR.out.box i b p hi1 (by rw [List.getElem?_map, hi2]; rfl)
                    have g3 := ht7.heap (((Tch.refl [] wr).alloc _).heap g1 (by simp)) (O5.out.ne (((Tch.refl [] wr).alloc _).heap g1 (by simp)) (by decide))
                    obtain ⟨k1, k2⟩ := kept_over S (p, x) (List.mem_of_getElem? hi2)
                    exact home_step cl7 hBl (by rw [cell_of_row w7 b 0 _ _ _ g3]; rfl) (hold b g2) k1 OKK.out.log4 (by have := OKK.out.pages2; simp at k2; omega)
                  · simp only [List.mem_cons, List.not_mem_nil, or_false] at hq
                    rcases hq with rfl | rfl
                    · exact flush_step
                    · exact raise_step cl7 hBl OKK.out.log4 OKK.out.pages2
                · intro S' w' hR i v hv
                  obtain ⟨b, o, hb, hc⟩ := hvals i v hv
                  exact ⟨b, o, hb, cell_touch hR.tch hc (hold b (hblk b o hb))⟩
                · rw [hlen]; simp; omega
                · rintro e w' ⟨q1, q2⟩
                  exact ⟨q1, q2.at_, (T67.mono (by simp)).trans q2.tch, cell_touch q2.tch cl7 hBl, trivial⟩
              by_cases hz : (runS S (S.kept.map LogS.homeStep ++ [LogS.flushStep, LogS.raise])).1 = 0
              · rw [if_pos hz] at EC
                obtain ⟨S2, hS2⟩ : ∃ S2, (runS S (S.kept.map LogS.homeStep ++ [LogS.flushStep, LogS.raise])).2 = S2 := ⟨_, rfl⟩
                rw [hz, hS2] at CALL
                rw [hS2] at EC
                clear hz hS2 hr
                go_upto_region 23 with (first | (at_builtin; (with_reducible apply wc_append_vals fnsT (by decide) (m := [fnFlush d, fnRaise w.heap.size]) O5.out (by simp; omega) (by simp; omega)); exact rfl; exact rfl; exact rfl; exact rfl; exact V5.out; (intro u hu; simp at hu; rcases hu with rfl | rfl <;> rfl); intro v7 w7 ho7 ht7; go_frame; have HO7 := Lib.hid ho7; have HT7 := Lib.hid ht7; clear ho7 ht7) | (go_at_call 39; refine (CALL.out _ _ HO7.out HT7.out).mono ?_; rintro e w8 ⟨rfl, q1, q2, q3, _⟩; have Q1 := Lib.hid q1; have Q2 := Lib.hid q2; have Q3 := Lib.hid q3; clear q1 q2 q3))
                have hBl : w.heap.size ≠ g := by have a1 := lt_of_heap HLOG.out.hg; omega
                obtain ⟨w9, hw9⟩ : ∃ w9, w8.setCell ⟨g, 4, none⟩ (.int .i64 0) = w9 := ⟨_, rfl⟩
                have tA : Tch [g] w8 w9 := by rw [← hw9]; exact (Tch.refl _ _).setCell (by simp) _
                have cl8 := Q3.out
                have cl9 : w9.cell? ⟨w.heap.size, 0, none⟩ = some (.pointer (some ⟨g, 0, none⟩)) := cell_touch tA cl8 (by simpa using hBl)
                have f4 := Q1.out.froz 4
                have hg8 := lt_of_heap Q1.out.hg
                have c48 := Q1.out.cell 4 rfl
                refine wp_region_one 7 4 [.pointer (some ⟨g, 0, none⟩), .pointer (some ⟨g, 0, none⟩), .pointer (some ⟨g, 0, none⟩), .pointer (some ⟨g, 4, none⟩), undef, .pointer (some ⟨g, 0, none⟩), .pointer (some ⟨g, 5, none⟩)] _ (fun b w' => ∃ n, w' = World.drewN (cond b w9 w8) n) (by kernel_rfl) (by kernel_rfl) rfl
                  (by simp only [putAll, List.take_succ_cons, List.take_zero]; go_frame; exact rfl) (by decide) ⟨1, rfl⟩ ?_ ?_ ?_
                · intro b
                  have clb : (cond b w9 w8).cell? ⟨w.heap.size, 0, none⟩ = some (.pointer (some ⟨g, 0, none⟩)) := by cases b; exact cl8; exact cl9
                  simp only [List.take_succ_cons, List.take_zero]
                  refine stepsBut_cons (stepOk_value rfl fun W hW => ?_) (stepsBut_cons (stepOk_value rfl fun W hW => ?_) (stepsBut_cons (stepOk_value rfl fun W hW => ?_) (stepsBut_cons (stepOk_value rfl fun W hW => ?_) (stepsBut_here (stepsOk_cons (stepOk_value rfl fun W hW => ?_) (stepsOk_cons (stepOk_value rfl fun W hW => ?_) stepsOk_nil))))))
                  all_goals (obtain ⟨n, rfl⟩ := hW; go_simp)
                · intro o W ho hW
                  simp only [List.getElem?_cons_zero, List.getElem?_cons_succ, Option.some.injEq] at ho
                  subst ho
                  obtain ⟨n, rfl⟩ := hW
                  refine ⟨rfl, ?_⟩
                  simp only [cond_false]
                  go_simp
                  exact ⟨rfl, n, by rw [← hw9]; rfl⟩
                intro wZ hZ
                obtain ⟨n, rfl⟩ := hZ
                simp only [cond_true, List.drop_succ_cons, List.drop_zero]
                have h9 : LogAt w9 g d L M V { S2 with used := 0 } := by
                  have hh := Q1.out
                  refine ⟨?_, hh.hD.touch tA (by simpa using hh.gd.symm) (by simpa using hh.gL.symm) (by simpa using hh.gM.symm), hh.hV.touch tA (by simpa using hh.gV.symm), hh.gd, hh.gL, hh.gM, hh.gV, hh.dV, hh.LV, hh.MV⟩
                  rw [← hw9, heap_setCell_cells hh.hg _ _]; rfl
                have hZ := h9.touch (tch_drewN w9 n) (by simp) (by simp) (by simp) (by simp) (by simp)
                have tZ : Tch [g] w8 (w9.drewN n) := tA.trans ((tch_drewN w9 n).mono (by simp))
                have cZ := cell_old (tch_drewN w9 n) cl9
                generalize w9.drewN n = wZ at *
                have c5 := hZ.cell 5 rfl
                have f5 := hZ.froz 5
                obtain ⟨wB, hwB⟩ : ∃ wB, wZ.setCell ⟨g, 5, none⟩ (.int .u64 0) = wB := ⟨_, rfl⟩
                have tB : Tch [g] wZ wB := by rw [← hwB]; exact (Tch.refl _ _).setCell (by simp) _
                have hB : LogAt wB g d L M V { S2 with used := 0, records := 0 } := by
                  refine ⟨?_, hZ.hD.touch tB (by simpa using hZ.gd.symm) (by simpa using hZ.gL.symm) (by simpa using hZ.gM.symm), hZ.hV.touch tB (by simpa using hZ.gV.symm), hZ.gd, hZ.gL, hZ.gM, hZ.gV, hZ.dV, hZ.LV, hZ.MV⟩
                  rw [← hwB, heap_setCell_cells hZ.hg _ _]; rfl
                have cB := cell_touch tB cZ (by simpa using hBl)
                have cB6 := hB.cell 6 rfl
                have HB := Lib.hid hB
                have TB := Lib.hid (tZ.trans tB)
                clear h9 hZ tZ tB hB tA cl9 hw9 c48 f4
                go_upto_region 24 with fail
                clear hwB
                go_wp2_with ((with_reducible apply wc_clear uMapPage HB.out.hV); exact rfl; exact rfl; exact rfl; intro w5 t5 hm5; go_frame; have HT5 := Lib.hid t5; have HM5 := Lib.hid hm5; clear t5 hm5)
                go_ret
                rw [EC.out]
                have hb := HB.out
                refine ⟨rfl, ⟨HT5.out.heap hb.hg (by simpa using hb.gV), hb.hD.touch HT5.out (by simpa using hb.dV) (by simpa using hb.LV) (by simpa using hb.MV), HM5.out, hb.gd, hb.gL, hb.gM, hb.gV, hb.dV, hb.LV, hb.MV⟩, ?_⟩
                exact ((T1.out.trans T6.out).mono (by simp)).trans ((Q2.out.mono (by simp)).trans ((TB.out.mono (by simp)).trans (HT5.out.mono (by simp))))
              · rw [if_neg hz] at EC
                obtain ⟨S2, hS2⟩ : ∃ S2, (runS S (S.kept.map LogS.homeStep ++ [LogS.flushStep, LogS.raise])).2 = S2 := ⟨_, rfl⟩
                obtain ⟨er, her⟩ : ∃ er, (runS S (S.kept.map LogS.homeStep ++ [LogS.flushStep, LogS.raise])).1 = er := ⟨_, rfl⟩
                rw [her, hS2] at CALL
                rw [her, hS2] at EC
                rw [her] at hz
                have hz' : (er != 0) = true := by simp [hz]
                clear hS2 hr her
                go_wp2_with (first | (at_builtin; (with_reducible apply wc_append_vals fnsT (by decide) (m := [fnFlush d, fnRaise w.heap.size]) O5.out (by simp; omega) (by simp; omega)); exact rfl; exact rfl; exact rfl; exact rfl; exact V5.out; (intro u hu; simp at hu; rcases hu with rfl | rfl <;> rfl); intro v7 w7 ho7 ht7; go_frame; have HO7 := Lib.hid ho7; have HT7 := Lib.hid ht7; clear ho7 ht7) | (go_at_call 39; refine (CALL.out _ _ HO7.out HT7.out).mono ?_; rintro e w8 ⟨rfl, q1, q2, q3, _⟩; have Q1 := Lib.hid q1; have Q2 := Lib.hid q2; have clq := q3; clear q1 q2 q3) | (go_at_call 51; refine (told_any Q1.out er).mono ?_; rintro e w9 ⟨rfl, q1, q2⟩; have Q3 := Lib.hid q1; have Q4 := Lib.hid (Q2.out.trans (q2.mono (by simp))); clear q1 q2))
                go_ret
                rw [EC.out]
                exact ⟨rfl, Q3.out, ((T1.out.trans T6.out).mono (by simp)).trans (Q4.out.mono (by simp))⟩
        · go_roundg cnt4
          case measure => exact HLT.out
          case rel => exact KeyRel.next I1.out O1.out N1.out M1.out G1.out TR.out (Nat.le_refl _) HS.out HG.out HT.out HI.out _ HO6.out HT6.out
end Go.Proofs.YthbaipljlbddcaaGreat
