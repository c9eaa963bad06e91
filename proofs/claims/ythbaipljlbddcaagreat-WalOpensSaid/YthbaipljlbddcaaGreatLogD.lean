/-
  An empty log is laid: package wal's Format.
-/
import Derived.Test.YthbaipljlbddcaaGreatLogC
namespace Go.Cib
open Go Go.RowKit
theorem DiskS.acts_drop {D : DiskS} {xs ys : List DAct} {j : Nat} {x : DAct} (hx : xs[j]? = some x) : D.acts (xs.drop j ++ ys) = if (D.act x).1 = 0 then (D.act x).2.acts (xs.drop (j + 1) ++ ys) else D.act x := by
  obtain ⟨hj, e⟩ := List.getElem?_eq_some_iff.1 hx
  rw [List.drop_eq_getElem_cons hj, e, List.cons_append, DiskS.acts_cons]
end Go.Cib
namespace Go.Proofs.YthbaipljlbddcaaGreat
open Go.RowKit Go.Cib
/-- What the steps of Format find: the boxes of the disk's pointer, of the log's length, of the log's pointer. -/
structure FmtAt (w : World) (g d L M Bd Bn Bl : Nat) (S : LogS) : Prop where
  lg : LogF w g d L M none S
  cd : w.cell? ⟨Bd, 0, none⟩ = some (.pointer (some ⟨d, 0, none⟩))
  cn : w.cell? ⟨Bn, 0, none⟩ = some (.int .i64 S.log)
  cl : w.cell? ⟨Bl, 0, none⟩ = some (.pointer (some ⟨g, 0, none⟩))
  nd : Bd ∉ [d, L, M]
  nn : Bn ∉ [d, L, M]
  nl : Bl ∉ [d, L, M]
theorem cell_touch {w w' : World} {X : List Nat} (h : Tch X w w') {b o : Nat} {v : Value} (hc : w.cell? ⟨b, o, none⟩ = some v) (hb : b ∉ X) : w'.cell? ⟨b, o, none⟩ = some v := by
  rw [World.cell?_of_block (w := w) (h.block _ (block_lt_of_cell hc) hb)]; exact hc
theorem FmtAt.disk {w w' : World} {g d L M Bd Bn Bl : Nat} {S : LogS} {D : DiskS} (h : FmtAt w g d L M Bd Bn Bl S) (hD : DiskAt w' d L M D) (ht : Tch [d, L, M] w w') : FmtAt w' g d L M Bd Bn Bl { S with disk := D } :=
  ⟨h.lg.disk hD ht, cell_touch ht h.cd h.nd, cell_touch ht h.cn h.nn, cell_touch ht h.cl h.nl, h.nd, h.nn, h.nl⟩

set_option maxRecDepth 20000 in
set_option maxHeartbeats 400000 in
theorem fmt1_any {w : World} {g d L M Bd Bn Bl : Nat} {S : LogS} (h : FmtAt w g d L M Bd Bn Bl S) (hl : S.log ≤ 4000) :
    Calls Tryz.prog 40 #[.pointer (some ⟨Bn, 0, none⟩), .pointer (some ⟨Bd, 0, none⟩)] w fun e w' =>
      e = .returned (.int .i64 (S.disk.acts (LogS.fmtA S.log)).1) ∧ FmtAt w' g d L M Bd Bn Bl { S with disk := (S.disk.acts (LogS.fmtA S.log)).2 } ∧ Tch [d, L, M] w w' := by
  have cn := h.cn
  have H := Lib.hid h
  have W1 : wrap64 (S.log + 2) = S.log + 2 := by unfold wrap64; omega
  obtain ⟨m, hm⟩ : ∃ m, S.log + 2 = m := ⟨_, rfl⟩
  have W2 : (S.log : Int) + 2 = m := by omega
  have HM := Lib.hid hm
  have hml : m ≤ 4002 := by omega
  clear h hm
  go_enter Tryz.func40, Tryz.ntmps40
  go_wp2_with fail
  obtain ⟨xs, hxs⟩ : ∃ xs, (List.range m).map (fun (i : Nat) => DAct.write (i : Int) Arr.zero) = xs := ⟨_, rfl⟩
  have HX := Lib.hid hxs
  clear hxs cn
  go_loopg [7] m (fun q i wr => ∃ j D, OnAt m i q j ∧ FmtAt wr g d L M Bd Bn Bl { S with disk := D } ∧ Tch [d, L, M] w wr ∧ S.disk.acts (xs ++ [.flush]) = D.acts (xs.drop j ++ [.flush]))
  case atStart => exact ⟨0, S.disk, ⟨Nat.zero_le _, rfl, rfl⟩, H.out, Tch.refl _ _, rfl⟩
  case round =>
    obtain ⟨j, D, ⟨hj, rfl, rfl⟩, hF, hT, he⟩ := hrel
    have cd := hF.cd
    have F0 := Lib.hid hF
    have T0 := Lib.hid hT
    clear hF hT
    by_cases hjm : j < m
    · have hx : xs[j]? = some (.write (j : Int) Arr.zero) := by rw [← HX.out]; simp [hjm]
      rw [DiskS.acts_drop hx] at he
      change _ = (if (D.write j Arr.zero).1 = 0 then (D.write j Arr.zero).2.acts _ else D.write j Arr.zero) at he
      have HE := Lib.hid he
      clear he hx
      by_cases hz : (D.write j Arr.zero).1 = 0
      · have hz' : ((D.write j Arr.zero).1 != 0) = false := by simp [hz]
        rw [if_pos hz] at HE
        go_wp2_with (first | ((with_reducible apply wc_build_arr secT); exact rfl; go_frame) | (go_at_call 41; refine (write_any F0.out.lg.hD _ _).mono ?_; rintro e w' ⟨rfl, hq1, hq2⟩; have F1 := Lib.hid (F0.out.disk hq1 hq2); have T1 := Lib.hid (T0.out.trans hq2); clear hq1 hq2 F0 T0))
        go_roundg (m - (j + 1))
        case measure => omega
        case rel => exact ⟨j + 1, _, ⟨by omega, by go_num, rfl⟩, F1.out, T1.out, HE.out⟩
      · have hz' : ((D.write j Arr.zero).1 != 0) = true := by simp [hz]
        rw [if_neg hz] at HE
        go_wp2_with (first | ((with_reducible apply wc_build_arr secT); exact rfl; go_frame) | (go_at_call 41; refine (write_any F0.out.lg.hD _ _).mono ?_; rintro e w' ⟨rfl, hq1, hq2⟩; have F1 := Lib.hid (F0.out.disk hq1 hq2); have T1 := Lib.hid (T0.out.trans hq2); clear hq1 hq2 F0 T0))
        go_ret
        have e0 : LogS.fmtA S.log = xs ++ [.flush] := by unfold LogS.fmtA; rw [HM.out, HX.out]
        rw [e0, HE.out]
        exact ⟨rfl, F1.out, T1.out⟩
    · have hd : xs.drop j = [] := List.drop_of_length_le (by rw [← HX.out]; simp; omega)
      rw [hd, List.nil_append, DiskS.acts_one] at he
      have HE := Lib.hid he
      clear he hd
      go_wp2_with (go_at_call 42; refine (flush_any F0.out.lg.hD).mono ?_; rintro e w' ⟨rfl, hq1, hq2⟩; have F1 := Lib.hid (F0.out.disk hq1 hq2); have T1 := Lib.hid (T0.out.trans hq2); clear hq1 hq2 F0 T0)
      go_ret
      have e0 : LogS.fmtA S.log = xs ++ [.flush] := by unfold LogS.fmtA; rw [HM.out, HX.out]
      rw [e0, HE.out]
      exact ⟨rfl, F1.out, T1.out⟩

set_option maxRecDepth 20000 in
set_option maxHeartbeats 400000 in
theorem fmt2_any {w : World} {g d L M Bd Bn Bl : Nat} {S : LogS} (h : FmtAt w g d L M Bd Bn Bl S) (hl : S.log ≤ 4000) (hp : S.pages ≤ 16384) (hg : S.gen < 18446744073709551616) :
    Calls Tryz.prog 43 #[.pointer (some ⟨Bl, 0, none⟩), .pointer (some ⟨Bd, 0, none⟩)] w fun e w' =>
      e = .returned (.int .i64 (S.disk.acts S.fmtB).1) ∧ FmtAt w' g d L M Bd Bn Bl { S with disk := (S.disk.acts S.fmtB).2 } ∧ Tch [d, L, M] w w' := by
  have cl := h.cl
  have c2 := h.lg.cell 2 rfl
  have H := Lib.hid h
  obtain ⟨m, hm⟩ : ∃ m, S.pages = m := ⟨_, rfl⟩
  rw [hm] at c2 hp
  have HM := Lib.hid hm
  clear h hm
  go_enter Tryz.func43, Tryz.ntmps43
  go_wp2_with fail
  obtain ⟨xs, hxs⟩ : ∃ xs, (List.range m).map (fun (p : Nat) => S.homeA p Arr.zero) = xs := ⟨_, rfl⟩
  have HX := Lib.hid hxs
  clear hxs cl c2
  go_loopg [9] m (fun q i wr => ∃ j D, OnAt m i q j ∧ FmtAt wr g d L M Bd Bn Bl { S with disk := D } ∧ Tch [d, L, M] w wr ∧ S.disk.acts (xs ++ [.flush]) = D.acts (xs.drop j ++ [.flush]))
  case atStart => exact ⟨0, S.disk, ⟨Nat.zero_le _, rfl, rfl⟩, H.out, Tch.refl _ _, rfl⟩
  case round =>
    obtain ⟨j, D, ⟨hj, rfl, rfl⟩, hF, hT, he⟩ := hrel
    have cd := hF.cd
    have cl := hF.cl
    have F0 := Lib.hid hF
    have T0 := Lib.hid hT
    clear hF hT
    by_cases hjm : j < m
    · have hx : xs[j]? = some (S.homeA j Arr.zero) := by rw [← HX.out]; simp [hjm]
      rw [DiskS.acts_drop hx] at he
      have HE := Lib.hid he
      clear he hx
      have CH : Hid (Calls Tryz.prog 44 #[.pointer (some ⟨g, 0, none⟩), .int .i64 j, .agg (secA (Arr.zero : Page))] wr fun e w' =>
          e = .returned (.int .i64 (D.act (S.homeA j Arr.zero)).1) ∧ LogF w' g d L M none { S with disk := (D.act (S.homeA j Arr.zero)).2 } ∧ Tch [d, L, M] wr w') := home_f F0.out.lg j Arr.zero hl (by omega) hg
      by_cases hz : (D.act (S.homeA j Arr.zero)).1 = 0
      · have hz' : ((D.act (S.homeA j Arr.zero)).1 != 0) = false := by simp [hz]
        rw [if_pos hz] at HE
        go_wp2_with (first | ((with_reducible apply wc_build_arr pageT); exact rfl; go_frame) | (go_at_call 44; refine CH.out.mono ?_; rintro e w' ⟨rfl, hq1, hq2⟩; have F1 := Lib.hid (F0.out.disk hq1.hD hq2); have T1 := Lib.hid (T0.out.trans hq2); clear hq1 hq2 F0 T0))
        go_roundg (m - (j + 1))
        case measure => omega
        case rel => exact ⟨j + 1, _, ⟨by omega, by go_num, rfl⟩, F1.out, T1.out, HE.out⟩
      · have hz' : ((D.act (S.homeA j Arr.zero)).1 != 0) = true := by simp [hz]
        rw [if_neg hz] at HE
        go_wp2_with (first | ((with_reducible apply wc_build_arr pageT); exact rfl; go_frame) | (go_at_call 44; refine CH.out.mono ?_; rintro e w' ⟨rfl, hq1, hq2⟩; have F1 := Lib.hid (F0.out.disk hq1.hD hq2); have T1 := Lib.hid (T0.out.trans hq2); clear hq1 hq2 F0 T0))
        go_ret
        have e0 : S.fmtB = xs ++ [.flush] := by unfold LogS.fmtB; rw [HM.out, HX.out]
        rw [e0, HE.out]
        exact ⟨rfl, F1.out, T1.out⟩
    · have hd : xs.drop j = [] := List.drop_of_length_le (by rw [← HX.out]; simp; omega)
      rw [hd, List.nil_append, DiskS.acts_one] at he
      have HE := Lib.hid he
      clear he hd
      go_wp2_with (go_at_call 42; refine (flush_any F0.out.lg.hD).mono ?_; rintro e w' ⟨rfl, hq1, hq2⟩; have F1 := Lib.hid (F0.out.disk hq1 hq2); have T1 := Lib.hid (T0.out.trans hq2); clear hq1 hq2 F0 T0)
      go_ret
      have e0 : S.fmtB = xs ++ [.flush] := by unfold LogS.fmtB; rw [HM.out, HX.out]
      rw [e0, HE.out]
      exact ⟨rfl, F1.out, T1.out⟩
end Go.Proofs.YthbaipljlbddcaaGreat
