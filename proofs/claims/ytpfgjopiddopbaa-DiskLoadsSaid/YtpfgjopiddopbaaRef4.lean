/-
  The document's own disk in memory: Flush, On.
-/
import Derived.Test.YtpfgjopiddopbaaRef3
namespace Go.Proofs.Ytpfgjopiddopbaa
open Go.RowKit Go.Cib

set_option maxRecDepth 20000 in
set_option maxHeartbeats 1000000 in
theorem refFlush_any {w : World} {r L W H : Nat} {D : DiskS} (h : RefAt w r L W H D) :
    Calls Try.prog 34 #[.pointer (some ⟨r, 0, none⟩)] w fun e w' =>
      e = .returned (.int .i64 D.flush.1) ∧ RefAt w' r L W H D.flush.2 ∧ Tch [r, L, W, H] w w' := by
  have c3 := cell_of_row w r 3 _ _ _ h.hr
  have c6 := cell_of_row w r 6 _ _ _ h.hr
  have f6 := frozen_of_row w r 6 _ _ h.hr
  simp only [List.getElem?_toArray, List.getElem?_cons_zero, List.getElem?_cons_succ] at c3 c6
  have H1 := Lib.hid h
  clear h
  cases hdd : D.dead with
  | true =>
    have e1 : D.flush = (6, D) := by unfold DiskS.flush; rw [if_pos hdd]
    have E1 := Lib.hid e1
    rw [hdd] at c3
    clear hdd e1
    go_enter Try.func34, Try.ntmps34
    go_wp2
    go_ret
    rw [E1.out]
    exact ⟨rfl, H1.out, Tch.refl _ _⟩
  | false =>
    rw [hdd] at c3
    have M1 : Hid (D.counted.dead = false) := hdd
    have D1 := Lib.hid hdd
    have h2 : RefAt (w.setCell ⟨r, 6, none⟩ (.int .i64 (wrap64 (D.flushes + 1)))) r L W H D.counted :=
      H1.out.head ((Tch.refl _ _).setCell (by simp) _) rfl rfl H1.out.ok.counted (by rw [heap_setCell_cells H1.out.hr _ _]; rfl)
    have t2 : Tch [r, L, W, H] w (w.setCell ⟨r, 6, none⟩ (.int .i64 (wrap64 (D.flushes + 1)))) := (Tch.refl _ _).setCell (by simp) _
    have H2 := Lib.hid h2
    have T2 := Lib.hid t2
    clear h2 t2 hdd
    have hw' : D.counted.went = D.went := rfl
    cases hgo : D.went with
    | true =>
      have e1 : D.flush = (6, D.counted.goes) := by unfold DiskS.flush; rw [if_neg (by simp [D1.out]), if_pos hgo]
      have E1 := Lib.hid e1
      rw [hgo] at hw'
      have HG2 := Lib.hid hw'
      clear hgo hw' e1
      go_enter Try.func34, Try.ntmps34
      go_wp2_with (go_at_call 43; refine (refGoes_any H2.out M1.out).mono ?_; rintro e w' ⟨rfl, hq1, hq2⟩; rw [HG2.out]; have HQ1 := Lib.hid hq1; have HQ2 := Lib.hid hq2; clear hq1 hq2)
      go_ret
      rw [E1.out]
      exact ⟨rfl, HQ1.out, T2.out.trans (HQ2.out.mono (by simp))⟩
    | false =>
      have e1 : D.flush = (0, D.counted.goes.flushed) := by unfold DiskS.flush; rw [if_neg (by simp [D1.out]), if_neg (by simp [hgo])]
      have E1 := Lib.hid e1
      rw [hgo] at hw'
      have HG2 := Lib.hid hw'
      clear hgo hw' e1
      go_enter Try.func34, Try.ntmps34
      go_wp2_with (go_at_call 43; refine (refGoes_any H2.out M1.out).mono ?_; rintro e w' ⟨rfl, hq1, hq2⟩; rw [HG2.out]; have HQ1 := Lib.hid hq1; have HQ2 := Lib.hid (T2.out.trans (hq2.mono (by simp))); clear hq1 hq2)
      generalize D.counted.goes = E at *
      generalize hn : E.lasts.length = n at *
      have HN := Lib.hid hn
      have hnb : n ≤ 16384 := by have := HQ1.out.ok.size; omega
      clear hn
      go_loopg [4] n (fun k i wr => ∃ j, OnAt n i k j ∧ RefAt wr r L W H (E.settle (DiskS.upto j)) ∧ Tch [r, L, W, H] w wr)
      case atStart => exact ⟨0, ⟨Nat.zero_le _, rfl, rfl⟩, by rw [show DiskS.upto 0 = [] from rfl, DiskS.settle_nil]; exact HQ1.out, HQ2.out⟩
      case round =>
        obtain ⟨j, ⟨hj, rfl, rfl⟩, hR, ht⟩ := hrel
        have hl : (E.settle (DiskS.upto j)).lasts.length = n := by rw [DiskS.settle_len]; exact HN.out
        have c2 := cell_of_row wr r 2 _ _ _ hR.hr
        simp only [List.getElem?_toArray, List.getElem?_cons_zero, List.getElem?_cons_succ, hl] at c2
        have R1 := Lib.hid hR
        have T1 := Lib.hid ht
        by_cases hjn : j < n
        · have cH := cell_of_row wr H j _ _ _ hR.hH
          rw [hasA_get _ j (by rw [hl]; exact hjn)] at cH
          clear hR ht
          have SN := Lib.hid (DiskS.settle_none E (DiskS.upto j) (j : Int))
          have SS := Lib.hid (DiskS.settle_some E (DiskS.upto j) j)
          generalize E.settle (DiskS.upto j) = F at *
          have HF := Lib.hid hl
          cases hw : F.waits (j : Int) with
          | none =>
            have hs : (F.waits j).isSome = false := by rw [hw]; rfl
            rw [hs] at cH
            have S1 := Lib.hid (SN.out hw)
            clear hs hw hl
            go_wp2_with fail
            go_roundg (n - (j + 1))
            case measure => omega
            case rel => exact ⟨j + 1, ⟨by omega, by go_num, rfl⟩, by rw [DiskS.upto_succ, S1.out]; exact R1.out, T1.out⟩
          | some s =>
            have hs : (F.waits j).isSome = true := by rw [hw]; rfl
            rw [hs] at cH
            have S1 := Lib.hid (SS.out s hw)
            obtain ⟨ws, g1, g2, g3⟩ := R1.out.hW
            have G4 := Lib.hid (g3 j s hw)
            have G1 := Lib.hid ((Tch.refl [] wr).drew.heap g1 (by simp))
            have GL := Lib.hid ((Tch.refl [] wr).drew.heap R1.out.hL (by simp))
            have c0 := cell_of_row wr.drew r 0 _ _ _ ((Tch.refl [] wr).drew.heap R1.out.hr (by simp))
            have c1 := cell_of_row wr.drew r 1 _ _ _ ((Tch.refl [] wr).drew.heap R1.out.hr (by simp))
            simp only [List.getElem?_toArray, List.getElem?_cons_zero, List.getElem?_cons_succ, hl] at c0 c1
            have hjF : j < F.lasts.length := by rw [hl]; exact hjn
            clear hs hw g1 g2 g3 hl
            go_wp2_with fail
            refine wp_region_still_tail 13 (by kernel_rfl) (by kernel_rfl) ?_
            simp only [List.take_succ_cons, List.take_zero, List.drop_succ_cons, List.drop_zero]
            still_step; still_step; still_step; still_step; still_step; still_step; still_step; still_step; still_step; still_step; still_step
            apply ws_load_row secT G1.out G4.out
            · exact rfl
            go_frame
            still_step
            refine wpStill_nil ?_
            apply wc_store_row secT GL.out hjF
            · exact rfl
            · exact rfl
            go_frame
            have h5 := R1.out.lay1 j s
            have t5 : Tch [r, L, W, H] w (wr.drew.setRow L (secsA (F.lasts.set j s))) := T1.out.drew.setRow (.inl (by simp)) _
            have hl5 : (F.lay1 j s).lasts.length = n := by simpa [DiskS.lay1] using HF.out
            generalize wr.drew.setRow L (secsA (F.lasts.set j s)) = W5 at *
            have c2' := cell_of_row W5 r 2 _ _ _ h5.hr
            simp only [List.getElem?_toArray, List.getElem?_cons_zero, List.getElem?_cons_succ, hl5] at c2'
            have cH' := cell_of_row W5 H j _ _ _ h5.hH
            rw [hasA_get _ j (by rw [hl5]; exact hjn)] at cH'
            have fH' := frozen_of_row W5 H j _ _ h5.hH
            have H5 := Lib.hid h5
            have T5 := Lib.hid t5
            clear h5 t5 c0 c1 cH c2 hl5
            go_wp2_with fail
            go_roundg (n - (j + 1))
            case measure => omega
            case rel => exact ⟨j + 1, ⟨by omega, by go_num, rfl⟩, by rw [DiskS.upto_succ, S1.out]; exact H5.out.drop1 j, T5.out.setCell (by simp) _⟩
        · clear hR ht
          have ej : j = n := by omega
          have e8 : E.settle (DiskS.upto j) = E.flushed := by
            have e9 := DiskS.settle_all E HQ1.out.ok
            rw [HN.out] at e9
            rw [ej]; exact e9
          have E8 := Lib.hid e8
          clear e8 ej hl
          go_wp2_with fail
          go_ret
          rw [E1.out]
          have h9 := R1.out
          rw [E8.out] at h9
          exact ⟨rfl, h9, T1.out⟩

set_option maxRecDepth 20000 in
set_option maxHeartbeats 2000000 in
theorem refOn_any {w : World} {r L W H : Nat} {D : DiskS} (h : RefAt w r L W H D) (a : Option Addr) (cap : Nat) (l : List Int) (hla : IntsAt w a l) (hlen : l.length ≤ 9223372036854775807)
    (hap : ∀ x, l ≠ [] → a = some x → x.block ∉ [r, L, W, H]) :
    Calls Try.prog 39 #[.pointer (some ⟨r, 0, none⟩), .slice a l.length cap] w fun e w' =>
      e = .returned (.int .i64 (D.on l).1) ∧ RefAt w' r L W H (D.on l).2 ∧ Tch [r, L, W, H] w w' := by
  have c3 := cell_of_row w r 3 _ _ _ h.hr
  have f3 := frozen_of_row w r 3 _ _ h.hr
  simp only [List.getElem?_toArray, List.getElem?_cons_zero, List.getElem?_cons_succ] at c3
  have H1 := Lib.hid h
  have HLI := Lib.hid hla
  have HAP := Lib.hid hap
  clear h hla hap
  cases hdd : D.dead with
  | false =>
    have e1 : D.on l = (70, D) := by unfold DiskS.on; rw [if_neg (by simp [hdd])]
    have E1 := Lib.hid e1
    rw [hdd] at c3
    clear hdd e1
    go_enter Try.func39, Try.ntmps39
    go_wp2
    go_ret
    rw [E1.out]
    exact ⟨rfl, H1.out, Tch.refl _ _⟩
  | true =>
    rw [hdd] at c3
    have e1 : D.on l = (0, { D with dead := false, lasts := DiskS.lay D.lasts (D.kept l), waits := fun _ => none }) := by unfold DiskS.on; rw [if_pos hdd]
    have E1 := Lib.hid e1
    have h2 : RefAt (w.setCell ⟨r, 3, none⟩ (.bool false)) r L W H { D with dead := false } :=
      H1.out.head ((Tch.refl _ _).setCell (by simp) _) rfl rfl ⟨H1.out.ok.some, H1.out.ok.size, H1.out.ok.sup, H1.out.ok.arm0, H1.out.ok.arm1⟩ (by rw [heap_setCell_cells H1.out.hr _ _]; rfl)
    have t2 : Tch [r, L, W, H] w (w.setCell ⟨r, 3, none⟩ (.bool false)) := (Tch.refl _ _).setCell (by simp) _
    have H2 := Lib.hid h2
    have T2 := Lib.hid t2
    have e2 : ∀ k, { (({ D with dead := false } : DiskS).settle l) with waits := k } = { D with dead := false, lasts := DiskS.lay D.lasts (D.kept l), waits := k } := fun k => rfl
    have E2 := Lib.hid e2
    clear h2 t2 hdd e1 e2
    go_enter Try.func39, Try.ntmps39
    go_wp2_with fail
    generalize ({ D with dead := false } : DiskS) = E at *
    generalize hn : E.lasts.length = n at *
    generalize hm : l.length = m at *
    have HN := Lib.hid hn
    have HM := Lib.hid hm
    have hnb : n ≤ 16384 := by have := H2.out.ok.size; omega
    clear hn hm
    go_loopg [5, 6] m (fun k i u wr => ∃ j, OnAt m i k j ∧ RefAt wr r L W H (E.settle (l.take j)) ∧ Tch [r, L, W, H] w wr)
    case atStart => exact ⟨0, ⟨Nat.zero_le _, rfl, rfl⟩, by rw [List.take_zero, DiskS.settle_nil]; exact H2.out, T2.out⟩
    case round =>
      obtain ⟨j, ⟨hj, rfl, rfl⟩, hR, ht⟩ := hrel
      have hl : (E.settle (l.take j)).lasts.length = n := by rw [DiskS.settle_len]; exact HN.out
      have c2 := cell_of_row wr r 2 _ _ _ hR.hr
      simp only [List.getElem?_toArray, List.getElem?_cons_zero, List.getElem?_cons_succ, hl] at c2
      have R1 := Lib.hid hR
      have T1 := Lib.hid ht
      by_cases hjm : j < m
      · have hlm : l.length = m := HM.out
        have hx : l[j]? = some (l[j]'(by omega)) := List.getElem?_eq_getElem _
        obtain ⟨kb, ko, rfl, hc⟩ := HLI.out j _ hx
        have hne : l ≠ [] := fun e => by have h0 : l.length = 0 := by rw [e]; rfl
                                         omega
        have hck := (World.cell?_of_block (w := w) (a := ⟨kb, ko + j, none⟩) (ht.block kb (block_lt_of_cell hc) (HAP.out _ hne rfl))).trans hc
        have HX := Lib.hid (take_snoc_get l j _ hx)
        have SN := Lib.hid (fun x => DiskS.settle_none E (l.take j) x)
        have SS := Lib.hid (DiskS.settle_some E (l.take j))
        generalize l[j]'(by omega) = x at *
        generalize E.settle (l.take j) = F at *
        have HF := Lib.hid hl
        clear hx hc hlm ht hne
        by_cases hx0 : x < 0
        · have hw : F.waits x = none := by
            cases hw : F.waits x with
            | none => rfl
            | some s => have := (R1.out.ok.sup x s hw).1; omega
          have S1 := Lib.hid (SN.out x hw)
          clear hw hl hR
          go_wp2_with fail
          go_roundg (m - (j + 1))
          case measure => omega
          case rel => exact ⟨j + 1, ⟨by omega, by go_num, rfl⟩, by rw [HX.out, S1.out]; exact R1.out, T1.out⟩
        · by_cases hxn : x < n
          · obtain ⟨i, rfl⟩ := Int.eq_ofNat_of_zero_le (show 0 ≤ x by omega)
            have hin : i < n := by omega
            have cH := cell_of_row wr H i _ _ _ hR.hH
            rw [hasA_get _ i (by rw [hl]; exact hin)] at cH
            clear hR
            cases hw : F.waits (i : Int) with
            | none =>
              have hs : (F.waits i).isSome = false := by rw [hw]; rfl
              rw [hs] at cH
              have S1 := Lib.hid (SN.out i hw)
              clear hs hw hl
              go_wp2_with fail
              go_roundg (m - (j + 1))
              case measure => omega
              case rel => exact ⟨j + 1, ⟨by omega, by go_num, rfl⟩, by rw [HX.out, S1.out]; exact R1.out, T1.out⟩
            | some s =>
              have hs : (F.waits i).isSome = true := by rw [hw]; rfl
              rw [hs] at cH
              have S1 := Lib.hid (SS.out i s hw)
              obtain ⟨ws, g1, g2, g3⟩ := R1.out.hW
              have G4 := Lib.hid (g3 i s hw)
              have G1 := Lib.hid ((Tch.refl [] wr).drew.heap g1 (by simp))
              have GL := Lib.hid ((Tch.refl [] wr).drew.heap R1.out.hL (by simp))
              have c0 := cell_of_row wr.drew r 0 _ _ _ ((Tch.refl [] wr).drew.heap R1.out.hr (by simp))
              have c1 := cell_of_row wr.drew r 1 _ _ _ ((Tch.refl [] wr).drew.heap R1.out.hr (by simp))
              simp only [List.getElem?_toArray, List.getElem?_cons_zero, List.getElem?_cons_succ, hl] at c0 c1
              have hjF : i < F.lasts.length := by rw [hl]; exact hin
              clear hs hw g1 g2 g3 hl
              go_wp2_with fail
              refine wp_region_still_tail 13 (by kernel_rfl) (by kernel_rfl) ?_
              simp only [List.take_succ_cons, List.take_zero, List.drop_succ_cons, List.drop_zero]
              still_step; still_step; still_step; still_step; still_step; still_step; still_step; still_step; still_step; still_step; still_step
              apply ws_load_row secT G1.out G4.out
              · exact rfl
              go_frame
              still_step
              refine wpStill_nil ?_
              apply wc_store_row secT GL.out hjF
              · exact rfl
              · exact rfl
              go_frame
              have h5 := R1.out.lay1 i s
              have t5 : Tch [r, L, W, H] w (wr.drew.setRow L (secsA (F.lasts.set i s))) := T1.out.drew.setRow (.inl (by simp)) _
              have hl5 : (F.lay1 i s).lasts.length = n := by simpa [DiskS.lay1] using HF.out
              generalize wr.drew.setRow L (secsA (F.lasts.set i s)) = W5 at *
              have c2' := cell_of_row W5 r 2 _ _ _ h5.hr
              simp only [List.getElem?_toArray, List.getElem?_cons_zero, List.getElem?_cons_succ, hl5] at c2'
              have cH' := cell_of_row W5 H i _ _ _ h5.hH
              rw [hasA_get _ i (by rw [hl5]; exact hin)] at cH'
              have fH' := frozen_of_row W5 H i _ _ h5.hH
              have H5 := Lib.hid h5
              have T5 := Lib.hid t5
              clear h5 t5 c0 c1 cH c2 hl5 hck
              go_wp2_with fail
              go_roundg (m - (j + 1))
              case measure => omega
              case rel => exact ⟨j + 1, ⟨by omega, by go_num, rfl⟩, by rw [HX.out, S1.out]; exact H5.out.drop1 i, T5.out.setCell (by simp) _⟩
          · have hw : F.waits x = none := by
              cases hw : F.waits x with
              | none => rfl
              | some s => have := (R1.out.ok.sup x s hw).2; omega
            have S1 := Lib.hid (SN.out x hw)
            clear hw hl hR
            go_wp2_with fail
            go_roundg (m - (j + 1))
            case measure => omega
            case rel => exact ⟨j + 1, ⟨by omega, by go_num, rfl⟩, by rw [HX.out, S1.out]; exact R1.out, T1.out⟩
      · have ej : l.take j = l := List.take_of_length_le (by have : l.length = m := HM.out; omega)
        rw [ej] at R1 hl
        clear hR ht ej c2
        have HL2 := Lib.hid hl
        have E3 := Lib.hid (fun k => (E2.out k))
        generalize E.settle l = F at *
        clear hl
        go_wp2_with fail
        go_loopg [7] n (fun k i wr => ∃ j, OnAt n i k j ∧ RefAt wr r L W H { F with waits := fun i => if 0 ≤ i ∧ i < j then none else F.waits i } ∧ Tch [r, L, W, H] w wr)
        case atStart => exact ⟨0, ⟨Nat.zero_le _, rfl, rfl⟩, by
          have : (fun i : Int => if 0 ≤ i ∧ i < ((0 : Nat) : Int) then none else F.waits i) = F.waits := by funext i; rw [if_neg (by omega)]
          rw [this]; exact R1.out, T1.out⟩
        case round =>
          obtain ⟨j, ⟨hj, rfl, rfl⟩, hR, ht⟩ := hrel
          have T1 := Lib.hid ht
          by_cases hjn : j < n
          · have e5 : ({ F with waits := fun i => if 0 ≤ i ∧ i < ((j + 1 : Nat) : Int) then none else F.waits i } : DiskS) = ({ F with waits := fun i => if 0 ≤ i ∧ i < (j : Int) then none else F.waits i } : DiskS).drop1 j := by
              unfold DiskS.drop1
              congr 1
              funext i
              by_cases e : i = (j : Int)
              · subst e; rw [if_pos (by omega)]; simp
              · simp only [e, if_false]
                by_cases e' : 0 ≤ i ∧ i < (j : Int)
                · rw [if_pos (by omega), if_pos e']
                · rw [if_neg (by omega), if_neg e']
            have E5 := Lib.hid e5
            have hl : ({ F with waits := fun i => if 0 ≤ i ∧ i < (j : Int) then none else F.waits i } : DiskS).lasts.length = n := HL2.out
            generalize ({ F with waits := fun i => if 0 ≤ i ∧ i < (j : Int) then none else F.waits i } : DiskS) = G at *
            have c2 := cell_of_row wr r 2 _ _ _ hR.hr
            simp only [List.getElem?_toArray, List.getElem?_cons_zero, List.getElem?_cons_succ, hl] at c2
            have cH := cell_of_row wr H j _ _ _ hR.hH
            rw [hasA_get _ j (by rw [hl]; exact hjn)] at cH
            have fH := frozen_of_row wr H j _ _ hR.hH
            have R2 := Lib.hid hR
            clear hR ht hl e5
            go_wp2_with fail
            go_roundg (n - (j + 1))
            case measure => omega
            case rel => exact ⟨j + 1, ⟨by omega, by go_num, rfl⟩, by rw [E5.out]; exact R2.out.drop1 j, T1.out.setCell (by simp) _⟩
          · have ej : (fun i : Int => if 0 ≤ i ∧ i < (j : Int) then none else F.waits i) = fun _ => none := by
              funext i
              by_cases e : 0 ≤ i ∧ i < (j : Int)
              · rw [if_pos e]
              · rw [if_neg e]
                cases hw : F.waits i with
                | none => rfl
                | some s =>
                  have := R1.out.ok.sup i s hw
                  have := HL2.out
                  omega
            rw [ej, E3.out] at hR
            have hl : F.lasts.length = n := HL2.out
            have R2 : Hid (RefAt wr r L W H (D.on l).2) := by rw [E1.out]; exact hR
            have c2 := cell_of_row wr r 2 _ _ _ hR.hr
            have hl2 : (DiskS.lay D.lasts (D.kept l)).length = n := by
              have e7 := congrArg (fun X : DiskS => X.lasts.length) (E3.out (fun _ => none))
              simp only at e7
              rw [← e7]; exact hl
            simp only [List.getElem?_toArray, List.getElem?_cons_zero, List.getElem?_cons_succ, hl2] at c2
            have E4 : Hid ((D.on l).1 = 0) := congrArg Prod.fst E1.out
            clear hR ht hl hl2 ej E1 E2 E3
            go_wp2_with fail
            go_ret
            rw [E4.out]
            exact ⟨rfl, R2.out, T1.out⟩
end Go.Proofs.Ytpfgjopiddopbaa
