/-
  What each function of package disk does to a disk in memory: Flush.
-/
import Derived.Test.YthbaipljlbddcaaDisk2
import Derived.Deep.LoopGhost
namespace Go.Proofs.Ythbaipljlbddcaa
open Go.RowKit Go.Cib

/-- What the loop of Flush has done so far. -/
def FlushRel (w0 : World) (d L M R : Nat) (D : DiskS) (cnt : Nat) (wr : World) : Prop :=
  ∃ g : Int → Option Sec, DiskAt wr d L M { D with lasts := DiskS.lay D.lasts g } ∧
    IterAt kInt wr R M (fun i => (D.waits i).map fun s => .agg (secA s)) (fun i => (g i).map fun s => .agg (secA s)) cnt ∧ Tch [d, L, M] w0 wr

theorem map_sec_inj {f g : Int → Option Sec} (h : (fun i => (g i).map fun s => Value.agg (secA s)) = fun i => (f i).map fun s => Value.agg (secA s)) : g = f := by
  funext i
  have := congrFun h i
  cases hg : g i <;> cases hf : f i <;> simp_all
  exact secA_inj this
theorem upd_sec (g : Int → Option Sec) (k : Int) (s : Sec) : upd (fun i => (g i).map fun s => Value.agg (secA s)) k (.agg (secA s)) = fun i => ((fun j => if j = k then some s else g j) i).map fun s => Value.agg (secA s) := by
  funext i
  simp only [upd]
  by_cases e : i = k <;> simp [e]

set_option maxRecDepth 20000 in
set_option maxHeartbeats 1000000 in
theorem flush_any {w : World} {d L M : Nat} {D : DiskS} (h : DiskAt w d L M D) :
    Calls Try.prog 17 #[.pointer (some ⟨d, 0, none⟩)] w fun e w' =>
      e = .returned (.int .i64 D.flush.1) ∧ DiskAt w' d L M D.flush.2 ∧ Tch [d, L, M] w w' := by
  have H := Lib.hid h
  clear h
  have hmay : D.may 0 = if D.dead = true then 6 else 0 := by
    unfold DiskS.may
    have := H.out.ok.some
    split
    · rfl
    · rw [if_neg (by omega), if_neg (by omega)]
  cases hdd : D.dead with
  | true =>
    rw [if_pos hdd] at hmay
    have HM := Lib.hid hmay
    have e1 : D.flush = (6, D) := by unfold DiskS.flush; rw [if_pos hdd]
    have E1 := Lib.hid e1
    clear hmay hdd e1
    go_enter Try.func17, Try.ntmps17
    go_wp2_with (go_at_call 41; refine (may_any H.out 0).mono ?_; rintro e w' ⟨rfl, rfl⟩; rw [HM.out])
    go_ret
    rw [E1.out]
    exact ⟨rfl, H.out, Tch.refl _ _⟩
  | false =>
    rw [if_neg (by simp [hdd])] at hmay
    have HM := Lib.hid hmay
    have e1 : D.flush = if D.went = true then (6, D.counted.goes) else (0, D.counted.goes.flushed) := by unfold DiskS.flush; rw [if_neg (by simp [hdd])]
    have E1 := Lib.hid e1
    have c5 := cell_of_row w d 5 _ _ _ H.out.hd
    have f5 := frozen_of_row w d 5 _ _ H.out.hd
    simp only [List.getElem?_toArray, List.getElem?_cons_zero, List.getElem?_cons_succ] at c5
    have h2 : DiskAt (w.setCell ⟨d, 5, none⟩ (.int .i64 (wrap64 (D.flushes + 1)))) d L M D.counted :=
      H.out.head ((Tch.refl _ _).setCell (by simp) _) rfl rfl H.out.ok.counted (by rw [heap_setCell_cells H.out.hd _ _]; rfl)
    have H2 := Lib.hid h2
    have hw' : D.counted.went = D.went := rfl
    clear hmay hdd e1 h2
    cases hgo : D.went with
    | true =>
      rw [hgo] at hw'
      have HG := Lib.hid hgo
      have HG2 := Lib.hid hw'
      clear hgo hw'
      go_enter Try.func17, Try.ntmps17
      go_wp2_with (first | (go_at_call 41; refine (may_any H.out 0).mono ?_; rintro e w' ⟨rfl, rfl⟩; rw [HM.out]) | (go_at_call 42; refine (goes_any H2.out).mono ?_; rintro e w' ⟨rfl, hq1, hq2⟩; rw [HG2.out]; have HQ1 := Lib.hid hq1; have HQ2 := Lib.hid hq2; clear hq1 hq2))
      go_ret
      rw [E1.out, HG.out]
      exact ⟨rfl, HQ1.out, ((Tch.refl _ _).setCell (by simp) _).trans (HQ2.out.mono (by simp))⟩
    | false =>
      rw [hgo] at hw'
      have HG := Lib.hid hgo
      have HG2 := Lib.hid hw'
      clear hgo hw'
      go_enter Try.func17, Try.ntmps17
      rw [HG.out, if_neg (by simp)] at E1
      obtain ⟨D', hD'⟩ : ∃ D', D' = D.counted.goes := ⟨_, rfl⟩
      rw [← hD'] at E1
      have HD' := Lib.hid hD'
      clear hD'
      go_wp2_with (first | (go_at_call 41; refine (may_any H.out 0).mono ?_; rintro e w' ⟨rfl, rfl⟩; rw [HM.out]) | (go_at_call 42; refine (goes_any H2.out).mono ?_; rintro e w' ⟨rfl, hq1, hq2⟩; rw [HG2.out]; rw [← HD'.out] at hq1; have c1 := cell_of_row w' d 1 _ _ _ hq1.hd; have HQ1 := Lib.hid hq1; have HQ2 := Lib.hid hq2; clear hq1 hq2; simp only [List.getElem?_toArray, List.getElem?_cons_zero, List.getElem?_cons_succ] at c1) | ((with_reducible apply wc_range uMapSec HQ1.out.hM); rfl; intro w3 cnt t3 sz3 hit; go_frame; have HT3 := Lib.hid t3; have HIT := Lib.hid hit; have HS3 := Lib.hid sz3; clear t3 hit sz3))
      have hD1 : DiskAt w3 d L M { D' with lasts := DiskS.lay D'.lasts fun _ => none } := by
        rw [DiskS.lay_none]; exact HQ1.out.touch HT3.out (by simp) (by simp) (by simp)
      have hT : Tch [d, L, M] w w3 := ((Tch.refl _ _).setCell (by simp) _).trans ((HQ2.out.mono (by simp)).trans (HT3.out.mono (by simp)))
      generalize hR : w'.heap.size = R at *
      have hRd : R ≠ d := fun e => by have := lt_of_heap HQ1.out.hd; omega
      have hRL : R ≠ L := fun e => by have := lt_of_heap HQ1.out.hL; omega
      have hRM : R ≠ M := fun e => by have := HQ1.out.hM.lt; omega
      have hRw : w.heap.size ≤ R := by have := HQ2.out.size; simp at this; omega
      have hr0 : FlushRel w d L M R D' cnt w3 := ⟨fun _ => none, hD1, HIT.out, hT⟩
      have HREL := Lib.hid hr0
      have HR := Lib.hid (And.intro hRd (And.intro hRL (And.intro hRM hRw)))
      clear hD1 hT hr0 hRd hRL hRM hRw c1 c5 f5 hR
      go_loopg [5] cnt (fun k _ wr => FlushRel w d L M R D' k wr)
      case atStart => exact HREL.out
      case round =>
        obtain ⟨g, hd1, hi1, ht1⟩ := hrel
        have c0 := cell_of_row wr d 0 _ _ _ hd1.hd
        have c1 := cell_of_row wr d 1 _ _ _ hd1.hd
        simp only [List.getElem?_toArray, List.getElem?_cons_zero, List.getElem?_cons_succ] at c0 c1
        have G1 := Lib.hid hd1
        have I1 := Lib.hid hi1
        have T1 := Lib.hid ht1
        clear hd1 hi1 ht1
        go_wp2_with (first | ((with_reducible apply wc_next keyI.inj I1.out); exact rfl; (intro hgf; have HGF := Lib.hid hgf; clear hgf; go_frame); rotate_left; (intro kk v w4 cnt4 hf hg ht hen hlt hit; obtain ⟨s, hs, rfl⟩ := Option.map_eq_some_iff.1 hf; have HS := Lib.hid hs; have HG := Lib.hid hg; have HT := Lib.hid ht; have HEN := Lib.hid hen; have HLT := Lib.hid hlt; have HI := Lib.hid hit; clear hf hs hg ht hen hlt hit; go_frame; (try simp only [kInt])); rotate_left) | ((with_reducible apply wc_clear uMapSec G1.out.hM); exact rfl; exact rfl; exact rfl; intro w5 t5 hm5; go_frame; have HT5 := Lib.hid t5; have HM5 := Lib.hid hm5; clear t5 hm5) | ((with_reducible apply wc_entry HEN.out); exact rfl; go_frame; (try simp only [kInt])) | ((with_reducible refine wc_alloc_arr secT ?_); go_frame; (try simp only [World.size_alloc])) | ((with_reducible apply wc_store_new secT); exact rfl; exact rfl; go_frame))
        · go_ret
          have e9 : DiskS.lay D'.lasts g = D'.flushed.lasts := by rw [map_sec_inj HGF.out]; rfl
          have h9 := G1.out
          rw [e9] at h9
          rw [E1.out]
          refine ⟨rfl, ⟨HT5.out.heap h9.hd (by simpa using h9.dM), HT5.out.heap h9.hL (by simpa using h9.LM), HM5.out, h9.dL, h9.dM, h9.LM, HQ1.out.ok.flushed⟩, T1.out.trans (HT5.out.mono (by simp))⟩
        · obtain ⟨r1, r2, r3, r4⟩ := HR.out
          have hsup := HQ1.out.ok.sup kk s HS.out
          obtain ⟨n, rfl⟩ := Int.eq_ofNat_of_zero_le hsup.1
          have hn : n < D'.lasts.length := by have := hsup.2; omega
          obtain ⟨W5, hW5⟩ : ∃ W5, W5 = w4.alloc (.cells (secA s) 47) := ⟨_, rfl⟩
          rw [← hW5]
          have t45 : Tch [] w4 W5 := by rw [hW5]; exact (Tch.refl _ _).alloc _
          have g5 : DiskAt W5 d L M { D' with lasts := DiskS.lay D'.lasts g } := (G1.out.touch HT.out (by simpa using r1.symm) (by simpa using r2.symm) (by simpa using r3.symm)).touch t45 (by simp) (by simp) (by simp)
          have b5 : W5.drew.heap[w4.heap.size]? = some (.cells (secA s) 47) := by rw [heap_drew, hW5]; exact heap_alloc_new _ _
          have i5 := HI.out.touch t45 (by simp) (by simp)
          have T5 : Tch [d, L, M] w W5 := (((T1.out.mono (S' := [R, d, L, M]) (by simp)).trans (HT.out.mono (by simp))).trans (t45.mono (by simp))).drop (by simp; omega)
          have c0 := cell_of_row W5.drew d 0 _ _ _ g5.hd
          simp only [List.getElem?_toArray, List.getElem?_cons_zero, DiskS.length_lay] at c0
          have hn' : n < (DiskS.lay D'.lasts g).length := by simpa using hn
          have GG := Lib.hid g5
          have BB := Lib.hid b5
          have II := Lib.hid i5
          have TT := Lib.hid T5
          clear hW5 t45 g5 b5 i5 T5 c1 hsup r1 r2 r3 r4
          refine wp_region_still_tail 7 (by kernel_rfl) (by kernel_rfl) ?_
          simp only [List.take_succ_cons, List.take_zero, List.drop_succ_cons, List.drop_zero]
          still_step; still_step; still_step; still_step; still_step
          apply ws_load_var secT (w := W5.drew) BB.out
          · exact rfl
          go_frame
          still_step
          refine wpStill_nil ?_
          apply wc_store_row secT (w := W5.drew) GG.out.hL hn'
          · exact rfl
          · exact rfl
          go_frame
          go_wp2
          go_roundg cnt4
          case measure => exact HLT.out
          case rel =>
            obtain ⟨r1, r2, r3, r4⟩ := HR.out
            have t6 : Tch [L] W5 (W5.drew.setRow L (secsA ((DiskS.lay D'.lasts g).set n s))) := (Tch.refl _ _).drew.setRow (.inl (by simp)) _
            refine ⟨fun j => if j = (n : Int) then some s else g j, ?_, ?_, TT.out.trans (t6.mono (by simp))⟩
            · rw [DiskS.lay_upd]
              refine ⟨?_, setRow_heap _ _ _ _ _ _ GG.out.hL, GG.out.hM.touch t6 (by simpa using GG.out.LM.symm), GG.out.dL, GG.out.dM, GG.out.LM, ?_⟩
              · have := t6.heap GG.out.hd (by simpa using GG.out.dL)
                simpa using this
              · have ok := GG.out.ok
                exact ⟨by simpa using ok.some, by simpa using ok.size, by simpa using ok.sup, ok.arm0, ok.arm1⟩
            · have := II.out.touch t6 (by simpa using r2) (by simpa using GG.out.LM.symm)
              rw [upd_sec] at this
              exact this
end Go.Proofs.Ythbaipljlbddcaa
