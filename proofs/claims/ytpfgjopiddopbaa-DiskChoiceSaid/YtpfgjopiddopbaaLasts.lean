/-
  What is flushed is there behind every failure of the power: the walk of DiskLasts.
-/
import Derived.Test.YtpfgjopiddopbaaKeep
import Derived.Test.YtpfgjopiddopbaaQuiet
namespace Go.Proofs.Ytpfgjopiddopbaa
open Go.RowKit Go.Cib

theorem diskLasts_big (w : World) (n : Int) (v1 v2 v3 : Value) (hn : 1000 < n) :
    Calls Try.prog 5 #[.int .i64 n, v1, v2, v3] w fun e w' => e = .returned (.bool true) ∧ Tch [] w w' := by
  go_enter Try.func5, Try.ntmps5
  go_wp2_with (go_at_call 19; refine (works_any _).mono ?_; rintro e w' ⟨rfl, hq1⟩; have HQ := Lib.hid hq1; clear hq1)
  go_ret
  exact ⟨rfl, HQ.out⟩
theorem diskLasts_no (w : World) (n : Int) (v1 v2 v3 : Value) (hn : n < 1) :
    Calls Try.prog 5 #[.int .i64 n, v1, v2, v3] w fun e w' => e = .returned (.bool true) ∧ Tch [] w w' := by
  have h1 : ¬ 1000 < n := by omega
  go_enter Try.func5, Try.ntmps5
  go_wp2_with (first | (go_at_call 10; refine (new_no _ n (.inl hn)).mono ?_; rintro e w' ⟨rfl, rfl⟩) | (go_at_call 19; refine (works_any _).mono ?_; rintro e w' ⟨rfl, hq1⟩; have HQ := Lib.hid hq1; clear hq1))
  go_ret
  exact ⟨rfl, HQ.out⟩

/-- The list of what was flushed, the marks of what was written since, and the disk. -/
structure LW (w0 w : World) (d L M : Nat) (D : DiskS) (k : Nat) (ls : List Sec) (ob : Nat) (bs : List Bool) (B : List (Nat × Obj)) : Prop where
  so : Solo w0 w d L M D [k, ob] B
  sk : SecsIn w k ls
  ov : BoolsAt w ob bs
  ne : k ≠ ob
  lb : bs.length = ls.length
  sf : Safe ls (fun i => bs.getD i false) D
section
variable {w0 w w' : World} {d L M : Nat} {D D' : DiskS} {k ob : Nat} {ls : List Sec} {bs : List Bool} {B B' : List (Nat × Obj)}
theorem LW.stepD (h : LW w0 w d L M D k ls ob bs B) (hd : DiskAt w' d L M D') (ht : Tch [d, L, M] w w') (hs : Safe ls (fun i => bs.getD i false) D') : LW w0 w' d L M D' k ls ob bs B := by
  obtain ⟨a1, a2, a3⟩ := h.so.ne k (by simp)
  obtain ⟨b1, b2, b3⟩ := h.so.ne ob (by simp)
  exact ⟨h.so.stepD hd ht, h.sk.touch ht (by simp [a1, a2, a3]), h.ov.touch ht (by simp [b1, b2, b3]), h.ne, h.lb, hs⟩
theorem LW.same (h : LW w0 w d L M D k ls ob bs B) (ht : Tch [] w w') : LW w0 w' d L M D k ls ob bs B :=
  ⟨h.so.same ht, h.sk.touch ht (by simp), h.ov.touch ht (by simp), h.ne, h.lb, h.sf⟩
theorem LW.put (h : LW w0 w d L M D k ls ob bs B) (o : Obj) : LW w0 (w.alloc o) d L M D k ls ob bs ((w.heap.size, o) :: B) :=
  ⟨h.so.put o, h.sk.touch ((Tch.refl [] w).alloc o) (by simp), h.ov.touch ((Tch.refl [] w).alloc o) (by simp), h.ne, h.lb, h.sf⟩
theorem LW.drop (h : LW w0 w d L M D k ls ob bs B) (hb : ∀ x ∈ B', x ∈ B) : LW w0 w d L M D k ls ob bs B' := ⟨h.so.drop hb, h.sk, h.ov, h.ne, h.lb, h.sf⟩
theorem LW.mark (h : LW w0 w d L M D k ls ob bs B) (i : Nat) : LW w0 (w.setCell ⟨ob, i, none⟩ (.bool true)) d L M D k ls ob (bs.set i true) B := by
  have ht : Tch [ob] w (w.setCell ⟨ob, i, none⟩ (.bool true)) := (Tch.refl _ _).setCell (by simp) _
  refine ⟨h.so.side (by simp) ht, h.sk.touch ht (by simpa using h.ne), h.ov.mark i true, h.ne, by simpa using h.lb, h.sf.len, fun j hj ho => h.sf.wait j hj ?_, fun j hj ho => h.sf.keep j hj ?_⟩ <;>
  · simp only [List.getD_eq_getElem?_getD, List.getElem?_set] at ho ⊢
    split at ho
    · split at ho
      · simp at ho
      · rw [List.getElem?_eq_none (by omega)]; rfl
    · exact ho
end
theorem over_no {n : Nat} {o : OpV} (h : ¬ (o.what = 1 ∧ 0 ≤ o.i ∧ o.i < n)) (i : Nat) : overBy n o i = false := by
  unfold overBy
  by_cases h1 : o.what = 1
  · by_cases h2 : o.i = (i : Int)
    · have : ¬ i < n := fun hi => h ⟨h1, by omega, by omega⟩
      simp [this]
    · simp [h2]
  · simp [h1]
theorem Safe.does_no {l : List Sec} {bs : List Bool} {D : DiskS} {o : OpV} (h : Safe l (fun i => bs.getD i false) D) (ho : ¬ (o.what = 1 ∧ 0 ≤ o.i ∧ o.i < l.length)) : Safe l (fun i => bs.getD i false) (act D o) := by
  have := h.does o
  simpa [over_no ho] using this
theorem Safe.does_yes {l : List Sec} {bs : List Bool} {D : DiskS} {o : OpV} {k : Nat} (h : Safe l (fun i => bs.getD i false) D) (hl : bs.length = l.length) (e : o.i = k) (hk : k < l.length) : Safe l (fun i => (bs.set k true).getD i false) (act D o) := by
  have hs := h.does o
  have key : ∀ j : Nat, j < l.length → (bs.set k true).getD j false = false → (bs.getD j false || overBy l.length o j) = false := by
    intro j hj ho
    simp only [List.getD_eq_getElem?_getD, List.getElem?_set] at ho ⊢
    by_cases hjk : k = j
    · subst hjk
      rw [if_pos rfl, if_pos (by omega)] at ho
      simp at ho
    · rw [if_neg hjk] at ho
      rw [ho]
      have : ¬ o.i = (j : Int) := by omega
      simp [overBy, this]
  exact ⟨hs.len, fun j hj ho => hs.wait j hj (key j hj ho), fun j hj ho => hs.keep j hj (key j hj ho)⟩

set_option maxRecDepth 20000 in
set_option maxHeartbeats 4000000 in
theorem diskLasts_in (w : World) (n : Nat) (hn1 : 1 ≤ n) (hn2 : n ≤ 1000) (a : Option Addr) (cap : Nat) (os : List OpV) (ho : OpsAt w a os) (b : Option Addr) (bcap : Nat) (ps : List OpV) (hp : OpsAt w b ps)
    (ka : Option Addr) (kcap : Nat) (keep : List Int) (hk : IntsAt w ka keep) (hlen : keep.length ≤ 9223372036854775807) :
    Calls Try.prog 5 #[.int .i64 n, .slice a os.length cap, .slice b ps.length bcap, .slice ka keep.length kcap] w fun e w' => e = .returned (.bool true) ∧ Tch [] w w' := by
  have HO := Lib.hid ho
  have HP := Lib.hid hp
  have HK := Lib.hid hk
  have HLEN := Lib.hid hlen
  clear ho hp hk hlen
  go_enter Try.func5, Try.ntmps5
  go_wp2_with fail
  refine (new_any w n (by omega) (by omega)).mono ?_
  rintro e w1 ⟨d, L, M, rfl, h1, t1, n1, n2, n3⟩
  have hsolo : Solo w w1 d L M (DiskS.made n) [] [] := by
    have l1 := lt_of_heap h1.hd
    have l2 := lt_of_heap h1.hL
    have l3 := h1.hM.lt
    refine ⟨h1, ⟨t1, ?_, by simp⟩, by simp⟩
    intro k hk
    simp at hk
    omega
  have HS := Lib.hid hsolo
  clear h1 t1 n1 n2 n3 hsolo
  go_upto_block 0 with fail
  generalize hm : os.length = m at *
  have HN := Lib.hid hm
  clear hm
  generalize hm : ps.length = m2 at *
  have HN2 := Lib.hid hm
  clear hm
  go_cut [11] from 34 to 49 (fun _ wx => ∃ D, Solo w wx d L M D [] [] ∧ D.lasts.length = n)
  case first =>
    go_wp2_with fail
    go_loopg [11] 300 (fun q i wr => ∃ j, OnAt 300 i q j ∧ ∃ D, Solo w wr d L M D [] [] ∧ D.lasts.length = n)
    case atStart => exact ⟨0, ⟨Nat.zero_le _, rfl, rfl⟩, _, HS.out, by simp [DiskS.made]⟩
    case round =>
      obtain ⟨j, ⟨hj, rfl, rfl⟩, D, hP, hDn⟩ := hrel
      clear HS
      have HS := Lib.hid hP
      have HDN := Lib.hid hDn
      clear hP hDn
      by_cases hj1 : j < m
      · by_cases hj2 : j < 300
        · have hlen' : os.length = m := HN.out
          have hx : os[j]? = some (os[j]'(by omega)) := List.getElem?_eq_getElem _
          obtain ⟨kb, ko, rfl, hop⟩ := HO.out j _ hx
          generalize os[j]'(by omega) = o at *
          have hop' := hop.later HS.out.bx.tch
          have c0 := hop'.c0
          have c1 := hop'.c1
          have c2 := hop'.c2
          have c3 := hop'.c3
          have HOP := Lib.hid hop.ok
          clear hop hop' hx hlen'
          go_wp2_with (go_at_call 22; refine (acts_any HS.out.dk o (HOP.out.later HS.out.bx.tch) (HS.out.off HOP.out)).mono ?_; rintro e w5 ⟨rfl, hq1, hq2⟩; have HQ := Lib.hid (HS.out.stepD hq1 hq2); clear hq1 hq2)
          go_roundg (300 - (j + 1))
          case measure => omega
          case rel => exact ⟨j + 1, ⟨by omega, by go_num, rfl⟩, _, HQ.out, by rw [act_len]; exact HDN.out⟩
        · go_wp2_with fail
          go_meet
          exact ⟨_, HS.out, HDN.out⟩
      · go_wp2_with fail
        go_meet
        exact ⟨_, HS.out, HDN.out⟩
  case rest =>
  obtain ⟨D, hP, hDn⟩ := hcut
  clear HS
  have HS := Lib.hid hP
  have HDN := Lib.hid hDn
  clear hP hDn
  go_upto_region 10 with fail
  go_cut [66] from 50 to 66 (fun s66 wx => s66 = .bool false ∧ ∃ D, Solo w wx d L M D [] [] ∧ D.lasts.length = n ∧ ∀ i, D.waits i = none)
  case first =>
    have key : ∀ E : DiskS, E.dead = false → E.lasts.length = n → Hid ((E.arm 0).1 = 0) ∧ Hid ((E.arm 0).2.flush.1 = 0) ∧ Hid ((E.arm 0).2.flush.2.lasts.length = n) ∧ Hid (∀ i, (E.arm 0).2.flush.2.waits i = none) := by
      intro E hd hl
      obtain ⟨a1, a2, a3, a4⟩ := arm_zero E
      obtain ⟨f1, f2, f3, f4⟩ := flush_alive (a2.trans hd) a3
      exact ⟨a1, f1, f3.trans (by rw [a4]; exact hl), f2⟩
    cases hd : D.dead with
    | true =>
      have hE := alive_dead D
      have hEl := alive_len D
      have e0 := on_dead hd []
      have e1 : alive D = (D.on []).2 := by unfold alive; rw [if_pos hd]
      rw [e1] at hE hEl
      obtain ⟨K1, K2, K3, K4⟩ := key _ hE (hEl.trans HDN.out)
      have HD := Lib.hid hd
      have E0 := Lib.hid e0
      clear hE hEl e0 e1 hd key
      go_wp2_with (first | (go_at_call 15; refine (dead_any HS.out.dk).mono ?_; rintro e w' ⟨rfl, rfl⟩; rw [HD.out]) | (go_at_call 18; refine (on_any HS.out.dk none 0 [] (by intro j x h; simp at h) (by decide) (by simp)).mono ?_; rintro e w' ⟨rfl, hq1, hq2⟩; rw [E0.out]; have HS2 := Lib.hid (HS.out.stepD hq1 hq2); clear hq1 hq2) | (go_at_call 11; refine (arm_any HS2.out.dk 0 (by decide)).mono ?_; rintro e w' ⟨rfl, hq1, hq2⟩; rw [K1.out]; have HS3 := Lib.hid (HS2.out.stepD hq1 (hq2.mono (by simp))); clear hq1 hq2) | (go_at_call 14; refine (flush_any HS3.out.dk).mono ?_; rintro e w' ⟨rfl, hq1, hq2⟩; rw [K2.out]; have HS4 := Lib.hid (HS3.out.stepD hq1 hq2); clear hq1 hq2))
      go_meet
      exact ⟨rfl, _, HS4.out, K3.out, K4.out⟩
    | false =>
      obtain ⟨K1, K2, K3, K4⟩ := key _ hd HDN.out
      have HD := Lib.hid hd
      clear hd key
      go_wp2_with (first | (go_at_call 15; refine (dead_any HS.out.dk).mono ?_; rintro e w' ⟨rfl, rfl⟩; rw [HD.out]) | (go_at_call 11; refine (arm_any HS.out.dk 0 (by decide)).mono ?_; rintro e w' ⟨rfl, hq1, hq2⟩; rw [K1.out]; have HS3 := Lib.hid (HS.out.stepD hq1 (hq2.mono (by simp))); clear hq1 hq2) | (go_at_call 14; refine (flush_any HS3.out.dk).mono ?_; rintro e w' ⟨rfl, hq1, hq2⟩; rw [K2.out]; have HS4 := Lib.hid (HS3.out.stepD hq1 hq2); clear hq1 hq2))
      go_meet
      exact ⟨rfl, _, HS4.out, K3.out, K4.out⟩
  case rest =>
  obtain ⟨rfl, D3, hP, hDn, hW⟩ := hcut
  clear HS HDN D
  have HS := Lib.hid hP
  have HDN := Lib.hid hDn
  have HW := Lib.hid hW
  clear hP hDn hW

  go_wp2_with fail
  refine (sectors_any HS.out.dk).mono ?_
  rintro e w2 ⟨ht, k, cap', rfl, hk, hsk⟩
  rw [HDN.out]
  have hs2 : Solo w w2 d L M D3 [k] [] := by
    have l1 := lt_of_heap HS.out.dk.hd
    have l2 := lt_of_heap HS.out.dk.hL
    have l3 := HS.out.dk.hM.lt
    have l4 := HS.out.bx.tch.size
    have l5 : k < w2.heap.size := by obtain ⟨cur, e, g, _⟩ := hsk; exact lt_of_heap g
    exact (HS.out.same ht).own (by omega) l5 (by simp) (by omega)
  have HS2 := Lib.hid hs2
  have HSK := Lib.hid hsk
  clear HS ht hk hsk hs2
  go_upto_block 2 with ((with_reducible apply wc_makeBools uBools infoBool1 (m := n)); omega; exact rfl; exact rfl; go_frame)
  have hob : LW w (w2.alloc (.cells (boolsA (List.replicate n false)) 4)) d L M D3 k D3.lasts w2.heap.size (List.replicate n false) [] := by
    have l1 := ne_size HS2.out.dk.hd
    have l2 := ne_size HS2.out.dk.hL
    have l3 := HS2.out.dk.hM.lt
    have l4 := HS2.out.bx.tch.size
    have l5 := (HS2.out.bx.own k (by simp)).2
    have e : D3.lasts.length = n := HDN.out
    refine ⟨?_, HSK.out.touch ((Tch.refl [] _).alloc _) (by simp), ⟨by rw [heap_alloc, if_pos rfl]⟩, by omega, by simp [e], rfl, fun i _ _ => HW.out i, fun i _ _ => rfl⟩
    have hs := (HS2.out.same ((Tch.refl [] _).alloc (.cells (boolsA (List.replicate n false)) 4)))
    have hs' := hs.own (k := w2.heap.size) l4 (by rw [World.size_alloc]; omega) (by simp) ⟨Ne.symm l1, Ne.symm l2, by omega⟩
    exact ⟨hs'.dk, hs'.bx.perm2, by intro x hx; simp at hx; rcases hx with rfl | rfl; exact HS2.out.ne _ (by simp); exact hs'.ne _ (by simp)⟩
  have HX := Lib.hid hob
  clear hob HS2 HSK
  generalize hls : D3.lasts = ls at *
  have HLS : Hid (ls.length = n) := HDN.out
  clear HDN HW hls
  generalize w2.alloc (.cells (boolsA (List.replicate n false)) 4) = w3 at *
  generalize w2.heap.size = ob at *
  generalize List.replicate n false = bs0 at *
  clear w2
  go_cut [14, 15] from 75 to 109 (fun _ _ wx => ∃ D bs, LW w wx d L M D k ls ob bs [])
  case first =>
    go_wp2_with fail
    go_loopg [14, 15] 300 (fun q i _ wr => ∃ j, OnAt 300 i q j ∧ ∃ D bs, LW w wr d L M D k ls ob bs [])
    case atStart => exact ⟨0, ⟨Nat.zero_le _, rfl, rfl⟩, _, _, HX.out⟩
    case round =>
      obtain ⟨j, ⟨hj, rfl, rfl⟩, D, bs, hP⟩ := hrel
      clear HX
      have HX := Lib.hid hP
      clear hP
      by_cases hj1 : j < m2
      · by_cases hj2 : j < 300
        · have hlen' : ps.length = m2 := HN2.out
          have hx : ps[j]? = some (ps[j]'(by omega)) := List.getElem?_eq_getElem _
          obtain ⟨kb, ko, rfl, hop⟩ := HP.out j _ hx
          generalize ps[j]'(by omega) = o at *
          have hop' := hop.later HX.out.so.bx.tch
          have c0 := hop'.c0
          have c1 := hop'.c1
          have c2 := hop'.c2
          have c3 := hop'.c3
          have HOP := Lib.hid hop.ok
          clear hop hop' hx hlen'
          have HY : Hid (LW w (wr.alloc o.cells) d L M D k ls ob bs [(wr.heap.size, o.cells)]) := HX.out.put o.cells
          by_cases hin : o.what = 1 ∧ 0 ≤ o.i ∧ o.i < (n : Int)
          · obtain ⟨k1, hk1⟩ := Int.eq_ofNat_of_zero_le hin.2.1
            have hk2 : k1 < n := by have := hin.2.2; omega
            obtain ⟨what, oi, text, oka, okeep, okcap⟩ := o
            simp only at hin hk1 c0 c1 c2 c3
            obtain ⟨rfl, h0, h1⟩ := hin
            subst hk1
            have hb0 : ∃ x, bs[k1]? = some x := ⟨bs[k1]'(by have := HX.out.lb; have := HLS.out; omega), by simp⟩
            obtain ⟨x0, hx0⟩ := hb0
            have cb := HX.out.ov.cell hx0
            have fb := frozen_of_row wr ob k1 _ _ HX.out.ov.at_
            have hlt : ob < wr.heap.size := lt_of_heap HX.out.ov.at_
            have HM : Hid (LW w ((wr.setCell ⟨ob, k1, none⟩ (.bool true)).alloc (OpV.mk 1 k1 text oka okeep okcap).cells) d L M D k ls ob (bs.set k1 true) _) := (HX.out.mark k1).put _
            have hsf : Safe ls (fun i => (bs.set k1 true).getD i false) (act D (OpV.mk 1 k1 text oka okeep okcap)) := HX.out.sf.does_yes HX.out.lb rfl (by have := HLS.out; omega)
            have HSF := Lib.hid hsf
            clear hx0 hsf HY
            go_wp2_with (go_at_call 22; refine (acts_any HM.out.so.dk (OpV.mk 1 k1 text oka okeep okcap) (HOP.out.later HM.out.so.bx.tch) (HM.out.so.off HOP.out)).mono ?_; rintro e w5 ⟨rfl, hq1, hq2⟩; have HQ := Lib.hid (HM.out.stepD hq1 hq2 HSF.out); clear hq1 hq2)
            go_roundg (300 - (j + 1))
            case measure => omega
            case rel => exact ⟨j + 1, ⟨by omega, by go_num, rfl⟩, _, _, HQ.out.drop (by simp)⟩
          · have hsf : Safe ls (fun i => bs.getD i false) (act D o) := HX.out.sf.does_no (by have := HLS.out; omega)
            have HSF := Lib.hid hsf
            clear hsf
            by_cases hw1 : o.what = 1
            · have hw1' : (o.what == 1) = true := by simp [hw1]
              by_cases h0 : 0 ≤ o.i
              · have h1 : ¬ o.i < (n : Int) := fun h => hin ⟨hw1, h0, h⟩
                clear hin hw1
                go_wp2_with (go_at_call 22; refine (acts_any HY.out.so.dk o (HOP.out.later HY.out.so.bx.tch) (HY.out.so.off HOP.out)).mono ?_; rintro e w5 ⟨rfl, hq1, hq2⟩; have HQ := Lib.hid (HY.out.stepD hq1 hq2 HSF.out); clear hq1 hq2)
                go_roundg (300 - (j + 1))
                case measure => omega
                case rel => exact ⟨j + 1, ⟨by omega, by go_num, rfl⟩, _, _, HQ.out.drop (by simp)⟩
              · clear hin hw1
                go_wp2_with (go_at_call 22; refine (acts_any HY.out.so.dk o (HOP.out.later HY.out.so.bx.tch) (HY.out.so.off HOP.out)).mono ?_; rintro e w5 ⟨rfl, hq1, hq2⟩; have HQ := Lib.hid (HY.out.stepD hq1 hq2 HSF.out); clear hq1 hq2)
                go_roundg (300 - (j + 1))
                case measure => omega
                case rel => exact ⟨j + 1, ⟨by omega, by go_num, rfl⟩, _, _, HQ.out.drop (by simp)⟩
            · have hw1' : (o.what == 1) = false := by simp [hw1]
              clear hin hw1
              go_wp2_with (go_at_call 22; refine (acts_any HY.out.so.dk o (HOP.out.later HY.out.so.bx.tch) (HY.out.so.off HOP.out)).mono ?_; rintro e w5 ⟨rfl, hq1, hq2⟩; have HQ := Lib.hid (HY.out.stepD hq1 hq2 HSF.out); clear hq1 hq2)
              go_roundg (300 - (j + 1))
              case measure => omega
              case rel => exact ⟨j + 1, ⟨by omega, by go_num, rfl⟩, _, _, HQ.out.drop (by simp)⟩
        · go_wp2_with fail
          go_meet
          exact ⟨_, _, HX.out⟩
      · go_wp2_with fail
        go_meet
        exact ⟨_, _, HX.out⟩
  case rest =>
  obtain ⟨D, bs, hP⟩ := hcut
  clear HX
  have HX := Lib.hid hP
  clear hP
  have hoff : Safe ls (fun i => bs.getD i false) D.off := ⟨HX.out.sf.len, HX.out.sf.wait, HX.out.sf.keep⟩
  have e0 : (D.off.on keep).1 = 0 := by rw [on_off]
  have E0 := Lib.hid e0
  have E1 := Lib.hid (on_pending D keep)
  have hrd : ∀ i : Nat, i < n → ∃ s x, bs[i]? = some x ∧ ls[i]? = some (if x = false then s else ls.getD i Arr.zero) ∧ (D.off.on keep).2.read i = (s, 0) := by
    intro i hi
    have hl : i < ls.length := by have := HLS.out; omega
    have hb : i < bs.length := by have := HX.out.lb; omega
    obtain ⟨b1, b2⟩ := HX.out.sf.behind keep i hl
    refine ⟨_, bs[i], by simp, ?_, b1⟩
    split
    · rename_i h0
      rw [b2 (by simp [hb, h0])]
      simp
    · simp [hl]
  have HRD := Lib.hid hrd
  have HOFF := Lib.hid hoff
  have HSF := Lib.hid (hoff.on keep)
  clear hoff e0 hrd
  have hap : ∀ x, keep ≠ [] → ka = some x → x.block ≠ d ∧ x.block ≠ L ∧ x.block ≠ M := fun x e1 e2 =>
    ⟨ints_old HK.out (HX.out.so.bx.own d (by simp)).1 x e1 e2, ints_old HK.out (HX.out.so.bx.own L (by simp)).1 x e1 e2, ints_old HK.out (HX.out.so.bx.own M (by simp)).1 x e1 e2⟩
  have HAP := Lib.hid hap
  clear hap
  go_upto_block 4 with (first | (go_at_call 24; refine (off_any HX.out.so.dk).mono ?_; rintro e w' ⟨rfl, hq1, hq2⟩; have HX2 := Lib.hid (HX.out.stepD hq1 (hq2.mono (by simp)) HOFF.out); clear hq1 hq2 HX) | (go_at_call 18; refine (on_any HX2.out.so.dk ka kcap keep (HK.out.touch HX2.out.so.bx.tch (by simp)) HLEN.out HAP.out).mono ?_; rintro e w' ⟨rfl, hq1, hq2⟩; rw [E0.out]; have HX3 := Lib.hid (HX2.out.stepD hq1 hq2 HSF.out); clear hq1 hq2 HX2) | (go_at_call 25; refine (pending_any HX3.out.so.dk).mono ?_; rintro e w' ⟨hq1, v, rfl, a9, ca9, rfl, hi9⟩; rw [E1.out]; have HX4 := Lib.hid (HX3.out.same hq1); clear hq1 hi9 HX3))
  generalize (D.off.on keep).2 = D4 at *
  clear E0 E1 HOFF HSF
  go_wp2_with fail
  go_loopg [16, 17, 18] n (fun q i _ _ wr => ∃ j, OnAt n i q j ∧ LW w wr d L M D4 k ls ob bs [])
  case atStart => exact ⟨0, ⟨Nat.zero_le _, rfl, rfl⟩, HX4.out⟩
  case round =>
    obtain ⟨j, ⟨hj, rfl, rfl⟩, hP⟩ := hrel
    clear HX4
    have HX := Lib.hid hP
    clear hP
    by_cases hjn : j < n
    · obtain ⟨s, x, hx, hl, hr⟩ := HRD.out j hjn
      have HR := Lib.hid hr
      have HBX := Lib.hid hx
      have HL := Lib.hid hl
      clear hr hx hl
      go_wp2_with (first | (go_at_call 17; refine (read_any HX.out.so.dk j).mono ?_; rintro e w5 ⟨rfl, hq1⟩; rw [HR.out]; have HY := Lib.hid ((HX.out.same hq1).put (.cells (secA s) 33)); clear hq1) | ((with_reducible refine wc_alloc_arr secT ?_); go_frame; (try simp only [World.size_alloc])) | ((with_reducible apply wc_store_new secT); exact rfl; exact rfl; go_frame))
      generalize w5.alloc (.cells (secA s) 33) = w6 at *
      generalize w5.heap.size = b5 at *
      have HS2 := Lib.hid HY.out
      have hb5 : w6.heap[b5]? = some (.cells (secA s) 33) := HS2.out.so.bx.got (by simp)
      have HB5 := Lib.hid hb5
      have cb := HS2.out.ov.cell HBX.out
      have hjb : j < bs.length := by have := HX.out.lb; have := HLS.out; omega
      clear hb5 w5
      cases x with
      | true =>
        (refine wp_region_quiet_lit (by kernel_rfl) (by kernel_rfl) ?_; (repeat (first | fail | go_big_quiet_step (fail))); refine wpQuiet_nil ?_; intro _ hw'; obtain ⟨nq, hw''⟩ := hw'; subst hw'')
        go_wp2_with fail
        go_roundg (n - (j + 1))
        case measure => omega
        case rel => exact ⟨j + 1, ⟨by omega, by go_num, rfl⟩, (HS2.out.same (tch_drewN _ _)).drop (by simp)⟩
      | false =>
        have hl2 : ls[j]? = some s := HL.out
        have HL2 := Lib.hid hl2
        have HSK := Lib.hid HS2.out.sk
        clear hl2
        (refine wp_region_quiet_lit (by kernel_rfl) (by kernel_rfl) ?_; (repeat (first | ((with_reducible apply wq_load_var secT (drewN_heap HB5.out)); exact rfl; exact rfl; go_frame) | ((with_reducible apply wq_load_in secT (drewN_secs HSK.out) HL2.out); exact rfl; exact rfl; go_frame) | ((with_reducible apply wq_neq_arr secT); exact rfl; exact rfl; exact rfl; rw [decide_eq_true rfl]; go_frame) | go_big_quiet_step (fail))); refine wpQuiet_nil ?_; intro _ hw'; obtain ⟨nq, hw''⟩ := hw'; subst hw'')
        go_wp2_with fail
        go_roundg (n - (j + 1))
        case measure => omega
        case rel => exact ⟨j + 1, ⟨by omega, by go_num, rfl⟩, (HS2.out.same (tch_drewN _ _)).drop (by simp)⟩
    · go_wp2_with (go_at_call 19; refine (works_any _).mono ?_; rintro e w7 ⟨rfl, hq1⟩; have HW := Lib.hid (HX.out.same hq1); clear hq1)
      go_ret
      exact ⟨rfl, HW.out.so.bx.tch⟩

theorem diskLasts_any (w : World) (n : Int) (_lo : -9223372036854775808 ≤ n) (_hi : n ≤ 9223372036854775807) (a : Option Addr) (cap : Nat) (os : List OpV) (ho : OpsAt w a os) (_h1 : os.length ≤ 9223372036854775807)
    (b : Option Addr) (bcap : Nat) (ps : List OpV) (hp : OpsAt w b ps) (_h2 : ps.length ≤ 9223372036854775807) (ka : Option Addr) (kcap : Nat) (keep : List Int) (hk : IntsAt w ka keep) (hlen : keep.length ≤ 9223372036854775807) :
    Calls Try.prog 5 #[.int .i64 n, .slice a os.length cap, .slice b ps.length bcap, .slice ka keep.length kcap] w fun e w' => e = .returned (.bool true) ∧ Tch [] w w' := by
  by_cases h1 : 1000 < n
  · exact diskLasts_big w n _ _ _ h1
  · by_cases h2 : n < 1
    · exact diskLasts_no w n _ _ _ h2
    · obtain ⟨k, rfl⟩ := Int.eq_ofNat_of_zero_le (show 0 ≤ n by omega)
      exact diskLasts_in w k (by omega) (by omega) a cap os ho b bcap ps hp ka kcap keep hk hlen
end Go.Proofs.Ytpfgjopiddopbaa
