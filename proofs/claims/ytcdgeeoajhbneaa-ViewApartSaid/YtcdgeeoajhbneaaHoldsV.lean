/-
  Views and their twins: ciboriumlaw17's holds.
-/
import Derived.Test.YtcdgeeoajhbneaaWorldX
namespace Go.Proofs.Ytcdgeeoajhbneaa
open Go.RowKit Go.Cib
theorem tn20 : Int.toNat 1048576 = 1048576 := by decide
set_option maxRecDepth 20000 in
set_option maxHeartbeats 2000000 in
theorem holds17_any {w : World} {W X M g : Nat} {lv mv kv vv : Value} {ls ms : List Nat} {ps : List ByteArray} {A B : List Kv} {N : Nat} (h : World17 w W X M g lv mv kv vv ls ms ps A B N) (hN : N < 100000) :
    Calls Try.prog 8 #[.pointer (some ⟨W, 0, none⟩)] w fun e w' => e = .returned (.bool true) ∧ Tch [] w w' := by
  have hc := h.hl.cap_
  rw [List.length_map, h.ll] at hc
  obtain ⟨la, lcap, rfl, _, _⟩ := hc
  have hc := h.hm.cap_
  rw [List.length_map, h.lm] at hc
  obtain ⟨ma, mcap, rfl, _, _⟩ := hc
  have CW0 := Lib.hid ((cell_of_row w W 0 _ _ _ h.hW).trans (by simp) : w.cell? ⟨W, 0, none⟩ = some (.slice la ps.length lcap))
  have CW1 := Lib.hid ((cell_of_row w W 1 _ _ _ h.hW).trans (by simp) : w.cell? ⟨W, 1, none⟩ = some (.slice ma ps.length mcap))
  have H := Lib.hid h
  have HN := Lib.hid hN
  have n2 := h.n2
  generalize hn : ps.length = n at *
  have HNN := Lib.hid hn
  clear h hN hn
  go_enter Try.func8, Try.ntmps8
  go_wp2_with fail
  go_loopg [3] n (fun q i wr => ∃ j, OnAt n i q j ∧ Tch [] w wr)
  case atStart => exact ⟨0, ⟨Nat.zero_le _, rfl, rfl⟩, Tch.refl _ _⟩
  case round =>
    obtain ⟨j, ⟨hj, rfl, rfl⟩, hT⟩ := hrel
    have HT := Lib.hid hT
    have c0 := cell_old HT.out CW0.out
    have c1 := cell_old HT.out CW1.out
    clear hT
    by_cases hjn : j < n
    · obtain ⟨b, hb⟩ : ∃ b, ls[j]? = some b := ⟨_, List.getElem?_eq_getElem (by rw [H.out.ll, HNN.out]; exact hjn)⟩
      obtain ⟨c, hc⟩ : ∃ c, ms[j]? = some c := ⟨_, List.getElem?_eq_getElem (by rw [H.out.lm, HNN.out]; exact hjn)⟩
      obtain ⟨p, hp⟩ : ∃ p, ps[j]? = some p := ⟨_, List.getElem?_eq_getElem (by rw [HNN.out]; exact hjn)⟩
      have hV := H.out.views _ b p hb hp
      have hR := H.out.twins _ c p hc hp
      have hpm := List.mem_of_getElem? hp
      have hpp := H.out.pp p hpm
      have hag := H.out.ag p hpm
      obtain ⟨lb, _, e1, _, hlb, _⟩ := H.out.hl.at_ (j := j) (x := ptr b) (by rw [List.getElem?_map, hb]; rfl)
      obtain ⟨mb, _, e2, _, hmb, _⟩ := H.out.hm.at_ (j := j) (x := ptr c) (by rw [List.getElem?_map, hc]; rfl)
      rw [List.length_map, H.out.ll, HNN.out] at e1
      rw [List.length_map, H.out.lm, HNN.out] at e2
      cases e1
      cases e2
      unfold ptr at hlb hmb
      have clb := cell_old HT.out hlb
      have cmb := cell_old HT.out hmb
      have CMB := Lib.hid hmb
      have CV : Hid (∀ W', Tch [] w W' → Calls Try.prog 18 #[.pointer (some ⟨b, 0, none⟩), .string ByteArray.empty, .string ByteArray.empty, .int .i64 1048576] W' fun e w' => Tch [] W' w' ∧ ∃ v, e = .returned (.tuple #[v, .int .i64 0]) ∧ OwnTexts w' W'.heap.size v (vlist B p ByteArray.empty ByteArray.empty 1048576)) := fun W' ht => by
        have := vlist_any (hV.touch ht (by simp)) hpp (H.out.mem.old ht) ByteArray.empty ByteArray.empty (by decide) (by decide) 1048576
        rwa [if_neg (by decide), if_neg (by decide), tn20, hag.vlist H.out.mem.up H.out.bk.up] at this
      have CR : Hid (∀ W', Tch [] w W' → Calls Try.prog 19 #[.pointer (some ⟨c, 0, none⟩), .string ByteArray.empty, .string ByteArray.empty, .int .i64 1048576] W' fun e w' => Tch [] W' w' ∧ ∃ v, e = .returned (.tuple #[v, .int .i64 0]) ∧ OwnTexts w' W'.heap.size v (vlist B p ByteArray.empty ByteArray.empty 1048576)) := fun W' ht => by
        have := rlist_any (hR.touch ht (by simp)) hpp (H.out.bk.old ht) ByteArray.empty ByteArray.empty (by decide) 1048576
        rwa [if_neg (by decide), if_neg (by decide), tn20] at this
      have hlen : (vlist B p ByteArray.empty ByteArray.empty 1048576).length ≤ 1000000 := by
        unfold vlist
        rw [List.length_map]
        have h1 := length_listed B (p ++ ByteArray.empty) (p ++ ByteArray.empty) 1048576
        have h2 := H.out.bk.len
        omega
      have hszs : ∀ s ∈ vlist B p ByteArray.empty ByteArray.empty 1048576, s.size ≤ 1000000000000000000 := fun s hs => by
        have := vlist_key H.out.sz s hs
        unfold vkey at this
        simp only [decide_eq_true_eq] at this
        omega
      generalize vlist B p ByteArray.empty ByteArray.empty 1048576 = lst at *
      have HL := Lib.hid hlen
      have HSZ := Lib.hid hszs
      clear hV hR hag hpm hp hb hc hpp hlb hmb hszs
      go_wp2_with (first
        | (go_at_call 18; refine (CV.out _ HT.out).mono ?_; rintro e w1 ⟨t1, v1, rfl, o1⟩; have HT1 := Lib.hid (HT.out.trans t1); have d1 := cell_old HT1.out CW1.out; have dm := cell_old HT1.out CMB.out; obtain ⟨a1, c1, rfl, _⟩ := o1.cap_; have hv := o1.valsV; rw [List.length_map] at hv; rw [List.length_map]; have HO1 := Lib.hid hv; clear hv; clear t1 o1 CV)
        | (go_at_call 19; refine (CR.out _ HT1.out).mono ?_; rintro e w2 ⟨t2, v2, rfl, o2⟩; have HT2 := Lib.hid (HT1.out.trans t2); obtain ⟨a2, c2, rfl, _⟩ := o2.cap_; have hv := o2.valsV; rw [List.length_map] at hv; rw [List.length_map]; have HO2 := Lib.hid hv; have HO3 := Lib.hid (HO1.out.later t2); clear hv; clear t2 o2 CR)
        | (go_at_call 20; refine (eqTexts_any HO3.out HO2.out HL.out HL.out).mono ?_; rintro e w3 ⟨rfl, t3⟩; rw [decide_eq_true (rfl : lst = lst)]; have HT3 := Lib.hid (HT2.out.trans t3); have HO4 := Lib.hid (HO3.out.later t3); clear t3))
      generalize hm : lst.length = m at *
      have HM := Lib.hid hm
      clear hm CMB
      go_loopg [8] m (fun q i wr => ∃ k, OnAt m i q k ∧ Tch [] w3 wr)
      case atStart => exact ⟨0, ⟨Nat.zero_le _, rfl, rfl⟩, Tch.refl _ _⟩
      case round =>
        obtain ⟨k, ⟨hk, rfl, rfl⟩, hK⟩ := hrel
        have HK := Lib.hid hK
        clear hK
        by_cases hkm : k < m
        · obtain ⟨s, hs⟩ : ∃ s, lst[k]? = some s := ⟨_, List.getElem?_eq_getElem (by rw [HM.out]; exact hkm)⟩
          obtain ⟨a0, cap0, e0, hvv⟩ := HO4.out.later HK.out
          rw [List.length_map, HM.out] at e0
          cases e0
          obtain ⟨bb, oo, rfl, hcell⟩ := hvv k (.string s) (by rw [List.getElem?_map, hs]; rfl)
          have CG : Hid (∀ W', Tch [] w W' → Calls Try.prog 7 #[.pointer (some ⟨W, 0, none⟩), .agg #[.int .i64 1, .int .i64 j, .int .i64 0, .string s, .string ByteArray.empty]] W' fun e w' => e = .returned (.bool true) ∧ Tch [] W' w') := fun W' ht => by
            have hh := H.out.old ht
            rw [← HNN.out] at hh
            exact does17_get hh HN.out ⟨1, j, 0, s, ByteArray.empty⟩ ⟨HSZ.out s (List.mem_of_getElem? hs), show ByteArray.empty.size ≤ 1000000000000000000 by decide⟩ rfl
          clear hs hvv
          go_wp2_with (go_at_call 7; refine (CG.out _ (HT3.out.trans HK.out)).mono ?_; rintro e w4 ⟨rfl, t4⟩; have HT4 := Lib.hid t4; clear t4 CG)
          go_roundg (m - (k + 1))
          case measure => omega
          case rel => exact ⟨k + 1, ⟨by omega, by go_num, rfl⟩, HK.out.trans HT4.out⟩
        · go_wp2_with fail
          go_roundg (n - (j + 1))
          case measure => omega
          case rel => exact ⟨j + 1, ⟨by omega, by go_num, rfl⟩, HT3.out.trans HK.out⟩
    · go_wp2_with fail
      go_ret
      exact ⟨rfl, HT.out⟩
end Go.Proofs.Ytcdgeeoajhbneaa
