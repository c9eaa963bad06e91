/-
  What each function of package disk does to a disk in memory: On.
-/
import Derived.Test.YthbaipljlbddcaaDisk3
namespace Go.Proofs.Ythbaipljlbddcaa
open Go.RowKit Go.Cib

/-- The list of numbers that lies at a slice's address. -/
def IntsAt (w : World) (a : Option Addr) (l : List Int) : Prop :=
  ∀ j x, l[j]? = some x → ∃ b o, a = some ⟨b, o, none⟩ ∧ w.cell? ⟨b, o + j, none⟩ = some (.int .i64 x)
theorem IntsAt.touch {w w' : World} {a : Option Addr} {l : List Int} {S : List Nat} (h : IntsAt w a l) (ht : Tch S w w') (hn : ∀ b ∈ S, ∀ x, a = some x → x.block ≠ b) : IntsAt w' a l := by
  intro j x hj
  obtain ⟨b, o, ha, hc⟩ := h j x hj
  refine ⟨b, o, ha, ?_⟩
  have hb : b ∉ S := fun hb => hn b hb _ ha rfl
  rw [World.cell?_of_block (w := w) (ht.block b (block_lt_of_cell hc) hb)]
  exact hc

theorem kept_some (D : DiskS) (l : List Int) (i : Int) (s : Sec) (h : D.waits i = some s) : D.kept (l ++ [i]) = fun j => if j = i then some s else D.kept l j := by
  funext j
  simp only [DiskS.kept, List.mem_append, List.mem_singleton]
  by_cases e : j = i
  · subst e; simp [h]
  · simp [e]
theorem kept_none (D : DiskS) (l : List Int) (i : Int) (h : D.waits i = none) : D.kept (l ++ [i]) = D.kept l := by
  funext j
  simp only [DiskS.kept, List.mem_append, List.mem_singleton]
  by_cases e : j = i
  · subst e; simp [h]
  · simp [e]
theorem take_snoc_get (l : List Int) (k : Nat) (x : Int) (h : l[k]? = some x) : l.take (k + 1) = l.take k ++ [x] := by
  rw [List.take_add_one, h]; rfl

/-- What the loop of On has done so far. -/
def OnRel (w0 : World) (d L M : Nat) (D : DiskS) (l : List Int) (j : Nat) (wr : World) : Prop :=
  DiskAt wr d L M { D with dead := false, lasts := DiskS.lay D.lasts (D.kept (l.take j)) } ∧ Tch [d, L, M] w0 wr
/-- How far it has come. -/
def OnAt (len : Nat) (i : Value) (k j : Nat) : Prop := j ≤ len ∧ i = .int .i64 j ∧ k = len - j

set_option maxRecDepth 20000 in
set_option maxHeartbeats 1000000 in
theorem on_any {w : World} {d L M : Nat} {D : DiskS} (h : DiskAt w d L M D) (a : Option Addr) (cap : Nat) (l : List Int) (hl : IntsAt w a l) (hlen : l.length ≤ 9223372036854775807)
    (hap : ∀ x, l ≠ [] → a = some x → x.block ≠ d ∧ x.block ≠ L ∧ x.block ≠ M) :
    Calls Try.prog 45 #[.pointer (some ⟨d, 0, none⟩), .slice a l.length cap] w fun e w' =>
      e = .returned (.int .i64 (D.on l).1) ∧ DiskAt w' d L M (D.on l).2 ∧ Tch [d, L, M] w w' := by
  have c2 := cell_of_row w d 2 _ _ _ h.hd
  have f2 := frozen_of_row w d 2 _ _ h.hd
  simp only [List.getElem?_toArray, List.getElem?_cons_zero, List.getElem?_cons_succ] at c2
  have H := Lib.hid h
  have HLI := Lib.hid hl
  have HAP := Lib.hid hap
  clear h hl hap
  cases hdd : D.dead with
  | false =>
    have e1 : D.on l = (70, D) := by unfold DiskS.on; rw [if_neg (by simp [hdd])]
    have E1 := Lib.hid e1
    rw [hdd] at c2
    clear hdd e1
    go_enter Try.func45, Try.ntmps45
    go_wp2
    go_ret
    rw [E1.out]
    exact ⟨rfl, H.out, Tch.refl _ _⟩
  | true =>
    have e1 : D.on l = (0, { D with dead := false, lasts := DiskS.lay D.lasts (D.kept l), waits := fun _ => none }) := by unfold DiskS.on; rw [if_pos hdd]
    have E1 := Lib.hid e1
    rw [hdd] at c2
    have hrel : OnRel w d L M D l 0 (w.setCell ⟨d, 2, none⟩ (.bool false)) := by
      have ht : Tch [d] w (w.setCell ⟨d, 2, none⟩ (.bool false)) := (Tch.refl _ _).setCell (by simp) _
      have ek : D.kept (l.take 0) = fun _ => none := by funext i; simp [DiskS.kept]
      refine ⟨?_, ht.mono (by simp)⟩
      rw [ek, DiskS.lay_none]
      exact H.out.head ht rfl rfl ⟨H.out.ok.some, H.out.ok.size, H.out.ok.sup, H.out.ok.arm0, H.out.ok.arm1⟩ (by rw [heap_setCell_cells H.out.hd _ _]; rfl)
    have HREL := Lib.hid hrel
    clear hdd e1 hrel
    go_enter Try.func45, Try.ntmps45
    go_wp2_with fail
    generalize hn : l.length = n at *
    have HN := Lib.hid hn
    clear hn
    go_loopg [21] n (fun k i wr => ∃ j, OnAt n i k j ∧ OnRel w d L M D l j wr)
    case atStart => exact ⟨0, ⟨Nat.zero_le _, rfl, rfl⟩, HREL.out⟩
    case round =>
      obtain ⟨j, ⟨hj, rfl, rfl⟩, hd1, ht1⟩ := hrel
      have c1 := cell_of_row wr d 1 _ _ _ hd1.hd
      simp only [List.getElem?_toArray, List.getElem?_cons_zero, List.getElem?_cons_succ] at c1
      have G1 := Lib.hid hd1
      have T1 := Lib.hid ht1
      clear hd1 ht1
      by_cases hjl : j < n
      · have hlen' : l.length = n := HN.out
        have hx : l[j]? = some (l.getD j 0) := by rw [List.getD_eq_getElem?_getD, List.getElem?_eq_getElem (by omega)]; rfl
        obtain ⟨kb, ko, rfl, hc⟩ := HLI.out j _ hx
        obtain ⟨n1, n2, n3⟩ := HAP.out _ (by intro e; rw [e] at hx; simp at hx) rfl
        have hck : wr.cell? ⟨kb, ko + j, none⟩ = some (.int .i64 (l.getD j 0)) := by
          rw [World.cell?_of_block (w := w) (T1.out.block kb (block_lt_of_cell hc) (by simp at n1 n2 n3 ⊢; exact ⟨n1, n2, n3⟩))]
          exact hc
        have HX := Lib.hid (take_snoc_get l j _ hx)
        generalize l.getD j 0 = i at *
        clear hx hc n1 n2 n3 hlen'
        cases hw : D.waits i with
        | none =>
          have hs : (D.waits i).isSome = false := by rw [hw]; rfl
          have HK := Lib.hid (kept_none D (l.take j) i hw)
          clear hw
          go_wp2_with (first | ((with_reducible apply G1.out.lookup); exact rfl; exact rfl; go_frame) | ((with_reducible refine wc_alloc_arr secT ?_); go_frame; (try simp only [World.size_alloc])) | ((with_reducible apply wc_store_new secT); exact rfl; exact rfl; go_frame))
          go_roundg (n - (j + 1))
          case measure => omega
          case rel =>
            refine ⟨j + 1, ⟨by omega, by go_num, rfl⟩, ?_, T1.out.trans ((Tch.refl _ _).alloc _)⟩
            rw [HX.out, HK.out]
            exact G1.out.touch ((Tch.refl [] _).alloc _) (by simp) (by simp) (by simp)
        | some s =>
          have hs : (D.waits i).isSome = true := by rw [hw]; rfl
          have HW := Lib.hid hw
          have HK := Lib.hid (kept_some D (l.take j) i s hw)
          clear hw
          go_wp2_with (first | ((with_reducible apply G1.out.lookup); exact rfl; exact rfl; go_frame) | ((with_reducible refine wc_alloc_arr secT ?_); go_frame; (try simp only [World.size_alloc])) | ((with_reducible apply wc_store_new secT); exact rfl; exact rfl; go_frame))
          have hsup := H.out.ok.sup i s HW.out
          obtain ⟨m, rfl⟩ := Int.eq_ofNat_of_zero_le hsup.1
          have hm : m < D.lasts.length := by have := hsup.2; omega
          have eS : (D.waits m).getD (Arr.zero : Sec) = s := by rw [HW.out]; rfl
          rw [eS]
          obtain ⟨W5, hW5⟩ : ∃ W5, W5 = wr.alloc (.cells (secA s) 47) := ⟨_, rfl⟩
          rw [← hW5]
          have t45 : Tch [] wr W5 := by rw [hW5]; exact (Tch.refl _ _).alloc _
          have g5 := G1.out.touch t45 (by simp) (by simp) (by simp)
          have b5 : W5.drew.heap[wr.heap.size]? = some (.cells (secA s) 47) := by rw [heap_drew, hW5]; exact heap_alloc_new _ _
          have c0 := cell_of_row W5.drew d 0 _ _ _ g5.hd
          simp only [List.getElem?_toArray, List.getElem?_cons_zero, DiskS.length_lay] at c0
          have hm' : m < (DiskS.lay D.lasts (D.kept (l.take j))).length := by simpa using hm
          have GG := Lib.hid g5
          have BB := Lib.hid b5
          have TT := Lib.hid (T1.out.trans (t45.mono (by simp)))
          clear hW5 t45 g5 b5 c1 hsup eS hs
          refine wp_region_still_tail 7 (by kernel_rfl) (by kernel_rfl) ?_
          simp only [List.take_succ_cons, List.take_zero, List.drop_succ_cons, List.drop_zero]
          still_step; still_step; still_step; still_step; still_step
          apply ws_load_var secT (w := W5.drew) BB.out
          · exact rfl
          go_frame
          still_step
          refine wpStill_nil ?_
          apply wc_store_row secT (w := W5.drew) GG.out.hL hm'
          · exact rfl
          · exact rfl
          go_frame
          go_wp2
          go_roundg (n - (j + 1))
          case measure => omega
          case rel =>
            have t6 : Tch [L] W5 (W5.drew.setRow L (secsA ((DiskS.lay D.lasts (D.kept (l.take j))).set m s))) := (Tch.refl _ _).drew.setRow (.inl (by simp)) _
            refine ⟨j + 1, ⟨by omega, by go_num, rfl⟩, ?_, TT.out.trans (t6.mono (by simp))⟩
            rw [HX.out, HK.out, DiskS.lay_upd]
            refine ⟨?_, setRow_heap _ _ _ _ _ _ GG.out.hL, GG.out.hM.touch t6 (by simpa using GG.out.LM.symm), GG.out.dL, GG.out.dM, GG.out.LM, ?_⟩
            · have := t6.heap GG.out.hd (by simpa using GG.out.dL)
              simpa using this
            · have ok := GG.out.ok
              exact ⟨by simpa using ok.some, by simpa using ok.size, by simpa using ok.sup, ok.arm0, ok.arm1⟩
      · go_wp2_with ((with_reducible apply wc_clear uMapSec G1.out.hM); exact rfl; exact rfl; exact rfl; intro w5 t5 hm5; go_frame; have HT5 := Lib.hid t5; have HM5 := Lib.hid hm5; clear t5 hm5)
        go_ret
        have hlen' : l.length = n := HN.out
        have e9 : l.take j = l := List.take_of_length_le (by omega)
        have h9 := G1.out
        rw [e9] at h9
        rw [E1.out]
        refine ⟨rfl, ⟨HT5.out.heap h9.hd (by simpa using h9.dM), HT5.out.heap h9.hL (by simpa using h9.LM), HM5.out, h9.dL, h9.dM, h9.LM, ?_⟩, T1.out.trans (HT5.out.mono (by simp))⟩
        exact ⟨h9.ok.some, h9.ok.size, by simp, h9.ok.arm0, h9.ok.arm1⟩
end Go.Proofs.Ythbaipljlbddcaa
