/-
  Bytes read and handed on: Raw.
-/
import Derived.Test.YthbaipljlbddcaaGreatReader
namespace Go.Proofs.YthbaipljlbddcaaGreat
open Go.RowKit Go.Cib

set_option maxRecDepth 20000 in
set_option maxHeartbeats 1000000 in
theorem raw_any {w : World} {r b o cap : Nat} {l : List UInt8} {at_ : Nat} (h : ReaderAt w r b o cap l at_) (n : Nat) (hn1 : 1 ≤ n) (hn : at_ + n ≤ l.length) :
    Calls Tryz.prog 81 #[.pointer (some ⟨r, 0, none⟩), .int .i64 n] w fun e w' => (∃ v, e = .returned v) ∧ ReaderAt w' r b o cap l (at_ + n) ∧ Tch [r] w w' := by
  have H := Lib.hid h
  have HN := Lib.hid hn
  have hll := h.hl
  have hlq : ((l.drop at_).take n).length = n := by rw [List.length_take, List.length_drop]; omega
  have hne : (l.drop at_).take n ≠ [] := by intro e; rw [e] at hlq; simp at hlq; omega
  have hblt : b < w.heap.size ∧ r < w.heap.size := by
    refine ⟨?_, lt_of_heap h.hr⟩
    obtain ⟨b', o', e, hc⟩ := h.hb 0 (l[0]'(by omega)) (List.getElem?_eq_getElem _)
    cases e
    exact block_lt_of_cell hc
  obtain ⟨q, hq⟩ : ∃ q, (l.drop at_).take n = q := ⟨_, rfl⟩
  rw [hq] at hlq hne
  subst hlq
  have hq5 : q.length ≤ 100000 := by omega
  have HQ := Lib.hid hq
  have HNE := Lib.hid hne
  clear h hn hne hq
  go_enter Tryz.func81, Tryz.ntmps81
  go_wp2_with fail
  refine (take_any H.out q.length hn1 HN.out).mono ?_
  rintro e w1 ⟨rfl, hq1, hq2⟩
  have H1 := Lib.hid hq1
  have T1 := Lib.hid hq2
  have HB : Hid (BytesAt w1 (some ⟨b, o + at_, none⟩) q) := by
    have h := (hq1.hb.drop at_).take q.length
    rw [HQ.out] at h
    exact h
  clear hq1 hq2
  go_wp2_with (at_builtin; refine wc_append_bytes (x := .const (.slice none 0 0)) (y := .tmp 7) (sCap := cap - at_) byteT HNE.out hq5 HB.out rfl rfl rfl rfl ?_; intro g c w2 hg hc hcm hb ht; go_frame; have H2 := Lib.hid (H1.out.touch ht (by simp) (by simp)); have T2 := Lib.hid (T1.out.trans (ht.mono (by simp))); clear hg hc hcm hb ht)
  go_ret
  exact ⟨⟨_, rfl⟩, H2.out, T2.out⟩
end Go.Proofs.YthbaipljlbddcaaGreat
