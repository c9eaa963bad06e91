/-
  What each function of package disk does to a disk in memory: Flush.
-/
import Derived.Test.YtkjgbhpnlgcinaaGreatDoorMD1
import Derived.Deep.LoopGhost
import Derived.Test.YtkjgbhpnlgcinaaGreatDoorMC
namespace Go.Proofs.YtkjgbhpnlgcinaaGreatDoor
open Go.RowKit Go.Cib

/-- What the loop of Flush has done so far. -/
def FlushRel (w0 : World) (d L M R : Nat) (D : DiskS) (cnt : Nat) (wr : World) : Prop :=
  ∃ g : Int → Option Sec, DiskAt wr d L M { D with lasts := DiskS.lay D.lasts g } ∧
    IterAt kInt wr R M (fun i => (D.waits i).map fun s => .agg (secA s)) (fun i => (g i).map fun s => .agg (secA s)) cnt ∧ Tch [d, L, M] w0 wr

theorem map_sec_inj {f g : Int → Option Sec} (h : (fun i => (g i).map fun s => Value.agg (secA s)) = fun i => (f i).map fun s => Value.agg (secA s)) : g = f := by
  funext i
  have := congrFun h i
  cases hg : g i <;> cases hf : f i <;> simp_all
  exact secA_inj this
theorem upd_sec (g : Int → Option Sec) (k : Int) (s : Sec) : upd (fun i => (g i).map fun s => Value.agg (secA s)) k (.agg (secA s)) = fun i => ((fun j => if j = k then some s else g j) i).map fun s => Value.agg (secA s) := by
  funext i
  simp only [upd]
  by_cases e : i = k <;> simp [e]

set_option maxRecDepth 20000 in
set_option maxHeartbeats 1000000 in
theorem flush_any {w : World} {d L M : Nat} {D : DiskS} (h : DiskAt w d L M D) :
    Calls Tryz.prog 67 #[.pointer (some ⟨d, 0, none⟩)] w fun e w' =>
      e = .returned (.int .i64 D.flush.1) ∧ DiskAt w' d L M D.flush.2 ∧ Tch [d, L, M] w w' := by
  have H := Lib.hid h
  clear h
  have hmay : D.may 0 = if D.dead = true then 6 else 0 := by
    unfold DiskS.may
    have := H.out.ok.some
    split
    · rfl
    · rw [if_neg (by omega), if_neg (by omega)]
  cases hdd : D.dead with
  | true =>
    rw [if_pos hdd] at hmay
    have HM := Lib.hid hmay
    have e1 : D.flush = (6, D) := by unfold DiskS.flush; rw [if_pos hdd]
    have E1 := Lib.hid e1
    clear hmay hdd e1
    go_enter Tryz.func67, Tryz.ntmps67
    go_wp2_with (go_at_call 113; refine (may_any H.out 0).mono ?_; rintro e w' ⟨rfl, rfl⟩; rw [HM.out])
    go_ret
    rw [E1.out]
    exact ⟨rfl, H.out, Tch.refl _ _⟩
  | false =>
    rw [if_neg (by simp [hdd])] at hmay
    have HM := Lib.hid hmay
    have e1 : D.flush = if D.went = true then (6, D.counted.goes) else (0, D.counted.goes.flushed) := by unfold DiskS.flush; rw [if_neg (by simp [hdd])]
    have E1 := Lib.hid e1
    have c5 := cell_of_row w d 5 _ _ _ H.out.hd
    have f5 := frozen_of_row w d 5 _ _ H.out.hd
    simp only [List.getElem?_toArray, List.getElem?_cons_zero, List.getElem?_cons_succ] at c5
    have h2 : DiskAt (w.setCell ⟨d, 5, none⟩ (.int .i64 (wrap64 (D.flushes + 1)))) d L M D.counted :=
      H.out.head ((Tch.refl _ _).setCell (by simp) _) rfl rfl H.out.ok.counted (by rw [heap_setCell_cells H.out.hd _ _]; rfl)
    have H2 := Lib.hid h2
    have hw' : D.counted.went = D.went := rfl
    clear hmay hdd e1 h2
    cases hgo : D.went with
    | true =>
      rw [hgo] at hw'
      have HG := Lib.hid hgo
      have HG2 := Lib.hid hw'
      clear hgo hw'
      go_enter Tryz.func67, Tryz.ntmps67
      go_wp2_with (first | (go_at_call 113; refine (may_any H.out 0).mono ?_; rintro e w' ⟨rfl, rfl⟩; rw [HM.out]) | (go_at_call 114; refine (goes_any H2.out).mono ?_; rintro e w' ⟨rfl, hq1, hq2⟩; rw [HG2.out]; have HQ1 := Lib.hid hq1; have HQ2 := Lib.hid hq2; clear hq1 hq2))
      go_ret
      rw [E1.out, HG.out]
      exact ⟨rfl, HQ1.out, ((Tch.refl _ _).setCell (by simp) _).trans (HQ2.out.mono (by simp))⟩
    | false =>
      rw [hgo] at hw'
      have HG := Lib.hid hgo
      have HG2 := Lib.hid hw'
      clear hgo hw'
      go_enter Tryz.func67, Tryz.ntmps67
      rw [HG.out, if_neg (by simp)] at E1
      obtain ⟨D', hD'⟩ : ∃ D', D' = D.counted.goes := ⟨_, rfl⟩
      rw [← hD'] at E1
      have HD' := Lib.hid hD'
      clear hD'
      go_wp2_with (first | (go_at_call 113; refine (may_any H.out 0).mono ?_; rintro e w' ⟨rfl, rfl⟩; rw [HM.out]) | (go_at_call 114; refine (goes_any H2.out).mono ?_; rintro e w' ⟨rfl, hq1, hq2⟩; rw [HG2.out]; rw [← HD'.out] at hq1; have c1 := cell_of_row w' d 1 _ _ _ hq1.hd; have HQ1 := Lib.hid hq1; have HQ2 := Lib.hid hq2; clear hq1 hq2; simp only [List.getElem?_toArray, List.getElem?_cons_zero, List.getElem?_cons_succ] at c1) | ((with_reducible apply wc_range uMapSec HQ1.out.hM); rfl; intro w3 cnt t3 sz3 hit; go_frame; have HT3 := Lib.hid t3; have HIT := Lib.hid hit; have HS3 := Lib.hid sz3; clear t3 hit sz3))
      have hD1 : DiskAt w3 d L M { D' with lasts := DiskS.lay D'.lasts fun _ => none } := by
        rw [DiskS.lay_none]; exact HQ1.out.touch HT3.out (by simp) (by simp) (by simp)
      have hT : Tch [d, L, M] w w3 := ((Tch.refl _ _).setCell (by simp) _).trans ((HQ2.out.mono (by simp)).trans (HT3.out.mono (by simp)))
      generalize hR : w'.heap.size = R at *
      have hRd : R ≠ d := fun e => by have := lt_of_heap HQ1.out.hd; omega
      have hRL : R ≠ L := fun e => by have := lt_of_heap HQ1.out.hL; omega
      have hRM : R ≠ M := fun e => by have := HQ1.out.hM.lt; omega
      have hRw : w.heap.size ≤ R := by have := HQ2.out.size; simp at this; omega
      have hr0 : FlushRel w d L M R D' cnt w3 := ⟨fun _ => none, hD1, HIT.out, hT⟩
      have HREL := Lib.hid hr0
      have HR := Lib.hid (And.intro hRd (And.intro hRL (And.intro hRM hRw)))
      clear hD1 hT hr0 hRd hRL hRM hRw c1 c5 f5 hR
      go_loopg [5] cnt (fun k _ wr => FlushRel w d L M R D' k wr)
      case atStart => exact HREL.out
      case round =>
        obtain ⟨g, hd1, hi1, ht1⟩ := hrel
        have c0 := cell_of_row wr d 0 _ _ _ hd1.hd
        have c1 := cell_of_row wr d 1 _ _ _ hd1.hd
        simp only [List.getElem?_toArray, List.getElem?_cons_zero, List.getElem?_cons_succ] at c0 c1
        have G1 := Lib.hid hd1
        have I1 := Lib.hid hi1
        have T1 := Lib.hid ht1
        clear hd1 hi1 ht1
        go_wp2_with (first | ((with_reducible apply wc_next keyI.inj I1.out); exact rfl; (intro hgf; have HGF := Lib.hid hgf; clear hgf; go_frame); rotate_left; (intro kk v w4 cnt4 hf hg ht hen hlt hit; obtain ⟨s, hs, rfl⟩ := Option.map_eq_some_iff.1 hf; have HS := Lib.hid hs; have HG := Lib.hid hg; have HT := Lib.hid ht; have HEN := Lib.hid hen; have HLT := Lib.hid hlt; have HI := Lib.hid hit; clear hf hs hg ht hen hlt hit; go_frame; (try simp only [kInt])); rotate_left) | ((with_reducible apply wc_clear uMapSec G1.out.hM); exact rfl; exact rfl; exact rfl; intro w5 t5 hm5; go_frame; have HT5 := Lib.hid t5; have HM5 := Lib.hid hm5; clear t5 hm5) | ((with_reducible apply wc_entry HEN.out); exact rfl; go_frame; (try simp only [kInt])) | ((with_reducible refine wc_alloc_arr secT ?_); go_frame; (try simp only [World.size_alloc])) | ((with_reducible apply wc_store_new secT); exact rfl; exact rfl; go_frame))
        · go_ret
          have e9 : DiskS.lay D'.lasts g = D'.flushed.lasts := by rw [map_sec_inj HGF.out]; rfl
          have h9 := G1.out
          rw [e9] at h9
          rw [E1.out]
          refine ⟨rfl, ⟨HT5.out.heap h9.hd (by simpa using h9.dM), HT5.out.heap h9.hL (by simpa using h9.LM), HM5.out, h9.dL, h9.dM, h9.LM, HQ1.out.ok.flushed⟩, T1.out.trans (HT5.out.mono (by simp))⟩
        · obtain ⟨r1, r2, r3, r4⟩ := HR.out
          have hsup := HQ1.out.ok.sup kk s HS.out
          obtain ⟨n, rfl⟩ := Int.eq_ofNat_of_zero_le hsup.1
          have hn : n < D'.lasts.length := by have := hsup.2; omega
          obtain ⟨W5, hW5⟩ : ∃ W5, W5 = w4.alloc (.cells (secA s) 124) := ⟨_, rfl⟩
          rw [← hW5]
          have t45 : Tch [] w4 W5 := by rw [hW5]; exact (Tch.refl _ _).alloc _
          have g5 : DiskAt W5 d L M { D' with lasts := DiskS.lay D'.lasts g } := (G1.out.touch HT.out (by simpa using r1.symm) (by simpa using r2.symm) (by simpa using r3.symm)).touch t45 (by simp) (by simp) (by simp)
          have b5 : W5.drew.heap[w4.heap.size]? = some (.cells (secA s) 124) := by rw [heap_drew, hW5]; exact heap_alloc_new _ _
          have i5 := HI.out.touch t45 (by simp) (by simp)
          have T5 : Tch [d, L, M] w W5 := (((T1.out.mono (S' := [R, d, L, M]) (by simp)).trans (HT.out.mono (by simp))).trans (t45.mono (by simp))).drop (by simp; omega)
          have c0 := cell_of_row W5.drew d 0 _ _ _ g5.hd
          simp only [List.getElem?_toArray, List.getElem?_cons_zero, DiskS.length_lay] at c0
          have hn' : n < (DiskS.lay D'.lasts g).length := by simpa using hn
          have GG := Lib.hid g5
          have BB := Lib.hid b5
          have II := Lib.hid i5
          have TT := Lib.hid T5
          clear hW5 t45 g5 b5 i5 T5 c1 hsup r1 r2 r3 r4
          refine wp_region_still_tail 7 (by kernel_rfl) (by kernel_rfl) ?_
          simp only [List.take_succ_cons, List.take_zero, List.drop_succ_cons, List.drop_zero]
          still_step; still_step; still_step; still_step; still_step
          apply ws_load_var secT (w := W5.drew) BB.out
          · exact rfl
          go_frame
          still_step
          refine wpStill_nil ?_
          apply wc_store_row secT (w := W5.drew) GG.out.hL hn'
          · exact rfl
          · exact rfl
          go_frame
          go_wp2
          go_roundg cnt4
          case measure => exact HLT.out
          case rel =>
            obtain ⟨r1, r2, r3, r4⟩ := HR.out
            have t6 : Tch [L] W5 (W5.drew.setRow L (secsA ((DiskS.lay D'.lasts g).set n s))) := (Tch.refl _ _).drew.setRow (.inl (by simp)) _
            refine ⟨fun j => if j = (n : Int) then some s else g j, ?_, ?_, TT.out.trans (t6.mono (by simp))⟩
            · rw [DiskS.lay_upd]
              refine ⟨?_, setRow_heap _ _ _ _ _ _ GG.out.hL, GG.out.hM.touch t6 (by simpa using GG.out.LM.symm), GG.out.dL, GG.out.dM, GG.out.LM, ?_⟩
              · have := t6.heap GG.out.hd (by simpa using GG.out.dL)
                simpa using this
              · have ok := GG.out.ok
                exact ⟨by simpa using ok.some, by simpa using ok.size, by simpa using ok.sup, ok.arm0, ok.arm1⟩
            · have := II.out.touch t6 (by simpa using r2) (by simpa using GG.out.LM.symm)
              rw [upd_sec] at this
              exact this
end Go.Proofs.YtkjgbhpnlgcinaaGreatDoor
/-
  What each function of package disk does to a disk in memory: On.
-/
namespace Go.Proofs.YtkjgbhpnlgcinaaGreatDoor
open Go.RowKit Go.Cib

/-- The list of numbers that lies at a slice's address. -/
def IntsAt (w : World) (a : Option Addr) (l : List Int) : Prop :=
  ∀ j x, l[j]? = some x → ∃ b o, a = some ⟨b, o, none⟩ ∧ w.cell? ⟨b, o + j, none⟩ = some (.int .i64 x)
theorem IntsAt.touch {w w' : World} {a : Option Addr} {l : List Int} {S : List Nat} (h : IntsAt w a l) (ht : Tch S w w') (hn : ∀ b ∈ S, ∀ x, a = some x → x.block ≠ b) : IntsAt w' a l := by
  intro j x hj
  obtain ⟨b, o, ha, hc⟩ := h j x hj
  refine ⟨b, o, ha, ?_⟩
  have hb : b ∉ S := fun hb => hn b hb _ ha rfl
  rw [World.cell?_of_block (w := w) (ht.block b (block_lt_of_cell hc) hb)]
  exact hc

theorem kept_some (D : DiskS) (l : List Int) (i : Int) (s : Sec) (h : D.waits i = some s) : D.kept (l ++ [i]) = fun j => if j = i then some s else D.kept l j := by
  funext j
  simp only [DiskS.kept, List.mem_append, List.mem_singleton]
  by_cases e : j = i
  · subst e; simp [h]
  · simp [e]
theorem kept_none (D : DiskS) (l : List Int) (i : Int) (h : D.waits i = none) : D.kept (l ++ [i]) = D.kept l := by
  funext j
  simp only [DiskS.kept, List.mem_append, List.mem_singleton]
  by_cases e : j = i
  · subst e; simp [h]
  · simp [e]
theorem take_snoc_get (l : List Int) (k : Nat) (x : Int) (h : l[k]? = some x) : l.take (k + 1) = l.take k ++ [x] := by
  rw [List.take_add_one, h]; rfl

/-- What the loop of On has done so far. -/
def OnRel (w0 : World) (d L M : Nat) (D : DiskS) (l : List Int) (j : Nat) (wr : World) : Prop :=
  DiskAt wr d L M { D with dead := false, lasts := DiskS.lay D.lasts (D.kept (l.take j)) } ∧ Tch [d, L, M] w0 wr

set_option maxRecDepth 20000 in
set_option maxHeartbeats 1000000 in
theorem on_any {w : World} {d L M : Nat} {D : DiskS} (h : DiskAt w d L M D) (a : Option Addr) (cap : Nat) (l : List Int) (hl : IntsAt w a l) (hlen : l.length ≤ 9223372036854775807)
    (hap : ∀ x, l ≠ [] → a = some x → x.block ≠ d ∧ x.block ≠ L ∧ x.block ≠ M) :
    Calls Tryz.prog 62 #[.pointer (some ⟨d, 0, none⟩), .slice a l.length cap] w fun e w' =>
      e = .returned (.int .i64 (D.on l).1) ∧ DiskAt w' d L M (D.on l).2 ∧ Tch [d, L, M] w w' := by
  have c2 := cell_of_row w d 2 _ _ _ h.hd
  have f2 := frozen_of_row w d 2 _ _ h.hd
  simp only [List.getElem?_toArray, List.getElem?_cons_zero, List.getElem?_cons_succ] at c2
  have H := Lib.hid h
  have HLI := Lib.hid hl
  have HAP := Lib.hid hap
  clear h hl hap
  cases hdd : D.dead with
  | false =>
    have e1 : D.on l = (70, D) := by unfold DiskS.on; rw [if_neg (by simp [hdd])]
    have E1 := Lib.hid e1
    rw [hdd] at c2
    clear hdd e1
    go_enter Tryz.func62, Tryz.ntmps62
    go_wp2
    go_ret
    rw [E1.out]
    exact ⟨rfl, H.out, Tch.refl _ _⟩
  | true =>
    have e1 : D.on l = (0, { D with dead := false, lasts := DiskS.lay D.lasts (D.kept l), waits := fun _ => none }) := by unfold DiskS.on; rw [if_pos hdd]
    have E1 := Lib.hid e1
    rw [hdd] at c2
    have hrel : OnRel w d L M D l 0 (w.setCell ⟨d, 2, none⟩ (.bool false)) := by
      have ht : Tch [d] w (w.setCell ⟨d, 2, none⟩ (.bool false)) := (Tch.refl _ _).setCell (by simp) _
      have ek : D.kept (l.take 0) = fun _ => none := by funext i; simp [DiskS.kept]
      refine ⟨?_, ht.mono (by simp)⟩
      rw [ek, DiskS.lay_none]
      exact H.out.head ht rfl rfl ⟨H.out.ok.some, H.out.ok.size, H.out.ok.sup, H.out.ok.arm0, H.out.ok.arm1⟩ (by rw [heap_setCell_cells H.out.hd _ _]; rfl)
    have HREL := Lib.hid hrel
    clear hdd e1 hrel
    go_enter Tryz.func62, Tryz.ntmps62
    go_wp2_with fail
    generalize hn : l.length = n at *
    have HN := Lib.hid hn
    clear hn
    go_loopg [21] n (fun k i wr => ∃ j, OnAt n i k j ∧ OnRel w d L M D l j wr)
    case atStart => exact ⟨0, ⟨Nat.zero_le _, rfl, rfl⟩, HREL.out⟩
    case round =>
      obtain ⟨j, ⟨hj, rfl, rfl⟩, hd1, ht1⟩ := hrel
      have c1 := cell_of_row wr d 1 _ _ _ hd1.hd
      simp only [List.getElem?_toArray, List.getElem?_cons_zero, List.getElem?_cons_succ] at c1
      have G1 := Lib.hid hd1
      have T1 := Lib.hid ht1
      clear hd1 ht1
      by_cases hjl : j < n
      · have hlen' : l.length = n := HN.out
        have hx : l[j]? = some (l.getD j 0) := by rw [List.getD_eq_getElem?_getD, List.getElem?_eq_getElem (by omega)]; rfl
        obtain ⟨kb, ko, rfl, hc⟩ := HLI.out j _ hx
        obtain ⟨n1, n2, n3⟩ := HAP.out _ (by intro e; rw [e] at hx; simp at hx) rfl
        have hck : wr.cell? ⟨kb, ko + j, none⟩ = some (.int .i64 (l.getD j 0)) := by
          rw [World.cell?_of_block (w := w) (T1.out.block kb (block_lt_of_cell hc) (by simp at n1 n2 n3 ⊢; exact ⟨n1, n2, n3⟩))]
          exact hc
        have HX := Lib.hid (take_snoc_get l j _ hx)
        generalize l.getD j 0 = i at *
        clear hx hc n1 n2 n3 hlen'
        cases hw : D.waits i with
        | none =>
          have hs : (D.waits i).isSome = false := by rw [hw]; rfl
          have HK := Lib.hid (kept_none D (l.take j) i hw)
          clear hw
          go_wp2_with (first | ((with_reducible apply G1.out.lookup); exact rfl; exact rfl; go_frame) | ((with_reducible refine wc_alloc_arr secT ?_); go_frame; (try simp only [World.size_alloc])) | ((with_reducible apply wc_store_new secT); exact rfl; exact rfl; go_frame))
          go_roundg (n - (j + 1))
          case measure => omega
          case rel =>
            refine ⟨j + 1, ⟨by omega, by go_num, rfl⟩, ?_, T1.out.trans ((Tch.refl _ _).alloc _)⟩
            rw [HX.out, HK.out]
            exact G1.out.touch ((Tch.refl [] _).alloc _) (by simp) (by simp) (by simp)
        | some s =>
          have hs : (D.waits i).isSome = true := by rw [hw]; rfl
          have HW := Lib.hid hw
          have HK := Lib.hid (kept_some D (l.take j) i s hw)
          clear hw
          go_wp2_with (first | ((with_reducible apply G1.out.lookup); exact rfl; exact rfl; go_frame) | ((with_reducible refine wc_alloc_arr secT ?_); go_frame; (try simp only [World.size_alloc])) | ((with_reducible apply wc_store_new secT); exact rfl; exact rfl; go_frame))
          have hsup := H.out.ok.sup i s HW.out
          obtain ⟨m, rfl⟩ := Int.eq_ofNat_of_zero_le hsup.1
          have hm : m < D.lasts.length := by have := hsup.2; omega
          have eS : (D.waits m).getD (Arr.zero : Sec) = s := by rw [HW.out]; rfl
          rw [eS]
          obtain ⟨W5, hW5⟩ : ∃ W5, W5 = wr.alloc (.cells (secA s) 124) := ⟨_, rfl⟩
          rw [← hW5]
          have t45 : Tch [] wr W5 := by rw [hW5]; exact (Tch.refl _ _).alloc _
          have g5 := G1.out.touch t45 (by simp) (by simp) (by simp)
          have b5 : W5.drew.heap[wr.heap.size]? = some (.cells (secA s) 124) := by rw [heap_drew, hW5]; exact heap_alloc_new _ _
          have c0 := cell_of_row W5.drew d 0 _ _ _ g5.hd
          simp only [List.getElem?_toArray, List.getElem?_cons_zero, DiskS.length_lay] at c0
          have hm' : m < (DiskS.lay D.lasts (D.kept (l.take j))).length := by simpa using hm
          have GG := Lib.hid g5
          have BB := Lib.hid b5
          have TT := Lib.hid (T1.out.trans (t45.mono (by simp)))
          clear hW5 t45 g5 b5 c1 hsup eS hs
          refine wp_region_still_tail 7 (by kernel_rfl) (by kernel_rfl) ?_
          simp only [List.take_succ_cons, List.take_zero, List.drop_succ_cons, List.drop_zero]
          still_step; still_step; still_step; still_step; still_step
          apply ws_load_var secT (w := W5.drew) BB.out
          · exact rfl
          go_frame
          still_step
          refine wpStill_nil ?_
          apply wc_store_row secT (w := W5.drew) GG.out.hL hm'
          · exact rfl
          · exact rfl
          go_frame
          go_wp2
          go_roundg (n - (j + 1))
          case measure => omega
          case rel =>
            have t6 : Tch [L] W5 (W5.drew.setRow L (secsA ((DiskS.lay D.lasts (D.kept (l.take j))).set m s))) := (Tch.refl _ _).drew.setRow (.inl (by simp)) _
            refine ⟨j + 1, ⟨by omega, by go_num, rfl⟩, ?_, TT.out.trans (t6.mono (by simp))⟩
            rw [HX.out, HK.out, DiskS.lay_upd]
            refine ⟨?_, setRow_heap _ _ _ _ _ _ GG.out.hL, GG.out.hM.touch t6 (by simpa using GG.out.LM.symm), GG.out.dL, GG.out.dM, GG.out.LM, ?_⟩
            · have := t6.heap GG.out.hd (by simpa using GG.out.dL)
              simpa using this
            · have ok := GG.out.ok
              exact ⟨by simpa using ok.some, by simpa using ok.size, by simpa using ok.sup, ok.arm0, ok.arm1⟩
      · go_wp2_with ((with_reducible apply wc_clear uMapSec G1.out.hM); exact rfl; exact rfl; exact rfl; intro w5 t5 hm5; go_frame; have HT5 := Lib.hid t5; have HM5 := Lib.hid hm5; clear t5 hm5)
        go_ret
        have hlen' : l.length = n := HN.out
        have e9 : l.take j = l := List.take_of_length_le (by omega)
        have h9 := G1.out
        rw [e9] at h9
        rw [E1.out]
        refine ⟨rfl, ⟨HT5.out.heap h9.hd (by simpa using h9.dM), HT5.out.heap h9.hL (by simpa using h9.LM), HM5.out, h9.dL, h9.dM, h9.LM, ?_⟩, T1.out.trans (HT5.out.mono (by simp))⟩
        exact ⟨h9.ok.some, h9.ok.size, by simp, h9.ok.arm0, h9.ok.arm1⟩
end Go.Proofs.YtkjgbhpnlgcinaaGreatDoor
/-
  What the other functions of package disk do to a disk in memory: Arm, Off, Dead, Counts, Size, New; and the text of a sector.
-/
namespace Go.Proofs.YtkjgbhpnlgcinaaGreatDoor
open Go.RowKit Go.Cib

set_option maxRecDepth 20000 in
set_option maxHeartbeats 400000 in
theorem arm_any {w : World} {d L M : Nat} {D : DiskS} (h : DiskAt w d L M D) (n : Int) (hn : n ≤ 9223372036854775807) :
    Calls Tryz.prog 30 #[.pointer (some ⟨d, 0, none⟩), .int .i64 n] w fun e w' =>
      e = .returned (.int .i64 (D.arm n).1) ∧ DiskAt w' d L M (D.arm n).2 ∧ Tch [d] w w' := by
  have c3 := cell_of_row w d 3 _ _ _ h.hd
  have f3 := frozen_of_row w d 3 _ _ h.hd
  simp only [List.getElem?_toArray, List.getElem?_cons_zero, List.getElem?_cons_succ] at c3
  have H := Lib.hid h
  have HO := Lib.hid (h.ok.arm n hn)
  clear h
  by_cases h0 : n < 0
  · have e1 : D.arm n = (2, D) := by unfold DiskS.arm; rw [if_pos h0]
    have E1 := Lib.hid e1
    clear e1
    go_enter Tryz.func30, Tryz.ntmps30
    go_wp2
    go_ret
    rw [E1.out]
    exact ⟨rfl, H.out, Tch.refl _ _⟩
  · have e1 : D.arm n = (0, { D with armed := n }) := by unfold DiskS.arm; rw [if_neg h0]
    have E1 := Lib.hid e1
    clear e1
    go_enter Tryz.func30, Tryz.ntmps30
    go_wp2
    go_ret
    have ht : Tch [d] w (w.setCell ⟨d, 3, none⟩ (.int .i64 n)) := (Tch.refl _ _).setCell (by simp) _
    have ho := HO.out
    rw [E1.out] at ho ⊢
    exact ⟨rfl, H.out.head ht rfl rfl ho (by rw [heap_setCell_cells H.out.hd _ _]; rfl), ht⟩

set_option maxRecDepth 20000 in
set_option maxHeartbeats 400000 in
theorem off_any {w : World} {d L M : Nat} {D : DiskS} (h : DiskAt w d L M D) :
    Calls Tryz.prog 31 #[.pointer (some ⟨d, 0, none⟩)] w fun e w' => e = .returned (.tuple #[]) ∧ DiskAt w' d L M D.off ∧ Tch [d] w w' := by
  have c2 := cell_of_row w d 2 _ _ _ h.hd
  have f2 := frozen_of_row w d 2 _ _ h.hd
  have c3 := cell_of_row w d 3 _ _ _ h.hd
  have f3 := frozen_of_row w d 3 _ _ h.hd
  simp only [List.getElem?_toArray, List.getElem?_cons_zero, List.getElem?_cons_succ] at c2 c3
  have H := Lib.hid h
  clear h
  go_enter Tryz.func31, Tryz.ntmps31
  go_wp2
  go_end0
  have ht : Tch [d] w ((w.setCell ⟨d, 2, none⟩ (.bool true)).setCell ⟨d, 3, none⟩ (.int .i64 0)) := ((Tch.refl _ _).setCell (by simp) _).setCell (by simp) _
  exact ⟨rfl, H.out.head ht rfl rfl H.out.ok.off (by rw [heap_setCell_cells (heap_setCell_cells H.out.hd _ _) _ _]; rfl), ht⟩

set_option maxRecDepth 20000 in
set_option maxHeartbeats 400000 in
theorem size_any {w : World} {d L M : Nat} {D : DiskS} (h : DiskAt w d L M D) :
    Calls Tryz.prog 63 #[.pointer (some ⟨d, 0, none⟩)] w fun e w' => e = .returned (.int .i64 D.lasts.length) ∧ w = w' := by
  have c0 := cell_of_row w d 0 _ _ _ h.hd
  simp only [List.getElem?_toArray, List.getElem?_cons_zero] at c0
  clear h
  go_enter Tryz.func63, Tryz.ntmps63
  go_wp2
  go_ret
  exact ⟨rfl, rfl⟩

end Go.Proofs.YtkjgbhpnlgcinaaGreatDoor
/-
  A new disk; the text of a sector.
-/
namespace Go.Proofs.YtkjgbhpnlgcinaaGreatDoor
open Go.RowKit Go.Cib

theorem uSecs : Tryz.prog.underlying 94 = some (.slice 124) := by kernel_rfl

set_option maxRecDepth 20000 in
set_option maxHeartbeats 400000 in
theorem new_no (w : World) (n : Int) (hn : n < 1 ∨ 16384 < n) :
    Calls Tryz.prog 33 #[.int .i64 n] w fun e w' => e = .returned (.tuple #[.pointer none, .int .i64 2]) ∧ w = w' := by
  by_cases h1 : n < 1
  · clear hn
    go_enter Tryz.func33, Tryz.ntmps33
    go_wp2
    go_ret2
    exact ⟨rfl, rfl⟩
  · have h2 : 16384 < n := by omega
    clear hn
    go_enter Tryz.func33, Tryz.ntmps33
    go_wp2
    go_ret2
    exact ⟨rfl, rfl⟩

set_option maxRecDepth 20000 in
set_option maxHeartbeats 400000 in
theorem new_any (w : World) (n : Nat) (h1 : 1 ≤ n) (h2 : n ≤ 16384) :
    Calls Tryz.prog 33 #[.int .i64 n] w fun e w' => ∃ d L M, e = .returned (.tuple #[.pointer (some ⟨d, 0, none⟩), .int .i64 0]) ∧
      DiskAt w' d L M (DiskS.made n) ∧ Tch [] w w' ∧ w.heap.size ≤ d ∧ w.heap.size ≤ L ∧ w.heap.size ≤ M := by
  go_enter Tryz.func33, Tryz.ntmps33
  go_wp2_with (first | ((with_reducible apply wc_makeArrs secT uSecs (m := n)); omega; omega; exact rfl; exact rfl; go_frame) | ((with_reducible apply wc_makeMap kInt); intro hm; have HM := Lib.hid hm; clear hm; go_frame))
  go_ret2
  refine ⟨w.heap.size + 2, w.heap.size, w.heap.size + 1, rfl, ⟨?_, ?_, ?_, by omega, by omega, by omega, DiskS.Ok.made h1 h2⟩, (((Tch.refl _ _).alloc _).alloc _).alloc _, by omega, by omega, by omega⟩
  · rw [heap_alloc, if_pos (by simp)]
    simp [DiskS.made]
  · rw [heap_alloc, if_neg (by simp; omega), heap_alloc, if_neg (by simp), heap_alloc, if_pos rfl]
    rfl
  · have := HM.out
    rw [World.size_alloc] at this
    exact this.touch ((Tch.refl [] _).alloc _) (by simp)

theorem text_step (l : List UInt8) (k : Nat) (b : UInt8) (hk : k < 512) (hb : l[k]? = some b) : ((Arr.text (l.take k) : Sec).l.set k b) = (Arr.text (l.take (k + 1)) : Sec).l := by
  have hl := (List.getElem?_eq_some_iff.1 hb).1
  simp only [Arr.text]
  have e1 : (l.take k).length = k := by rw [List.length_take]; omega
  have e2 : (l.take (k + 1)).length = k + 1 := by rw [List.length_take]; omega
  rw [List.take_of_length_le (by omega : (l.take k).length ≤ 512), List.take_of_length_le (by omega : (l.take (k + 1)).length ≤ 512), e1, e2]
  rw [show List.take (k + 1) l = List.take k l ++ [b] by rw [List.take_add_one, hb]; rfl]
  rw [show 512 - k = (512 - (k + 1)) + 1 by omega, List.replicate_succ, List.set_append_right _ _ (by omega), e1, Nat.sub_self, List.set_cons_zero, List.append_assoc]
  rfl
theorem text_full (l : List UInt8) (k : Nat) (hk : 512 ≤ k ∨ l.length ≤ k) : (Arr.text (l.take k) : Sec) = Arr.text l := by
  apply Arr.ext'
  simp only [Arr.text]
  rcases hk with hk | hk
  · rw [List.take_take, Nat.min_eq_left hk, List.length_take]
    congr 2
    omega
  · rw [List.take_of_length_le hk]

/-- The text's first k bytes are laid. -/
def TextRel (w0 : World) (X : Nat) (s : ByteArray) (k : Nat) (wr : World) : Prop :=
  wr.heap[X]? = some (.cells (secA (Arr.text (s.data.toList.take k) : Sec)) 124) ∧ Tch [X] w0 wr

end Go.Proofs.YtkjgbhpnlgcinaaGreatDoor
