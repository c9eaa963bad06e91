/-
  The document's book in memory: Place; texts that begin with others; lists of texts that are alike.
-/
import Derived.Test.YtcdgeeoajhbneaaRows
import Derived.Test.YtcdgeeoajhbneaaRegion7
import Derived.Test.YtcdgeeoajhbneaaVals2
import Derived.Test.YtcdgeeoajhbneaaViewP
import Derived.StillTailTactics
import Derived.Lib.Hide
import Derived.Deep.LoopGhost
namespace Go.Cib
open Go Go.RowKit
theorem blt_toList (a b : ByteArray) : Op.bytesLess a.toList b.toList = blt a b := by rw [ByteArray.toList_eq, ByteArray.toList_eq]; rfl
theorem eq_toList (a b : ByteArray) : (a.toList == b.toList) = decide (a = b) := by
  rw [ByteArray.toList_eq, ByteArray.toList_eq, Bool.eq_iff_iff]
  simp only [beq_iff_eq, decide_eq_true_eq]
  exact ⟨fun h => tl_inj h, fun h => by rw [h]⟩
theorem bgt_toList (a b : ByteArray) : (!(Op.bytesLess a.toList b.toList || a.toList == b.toList)) = blt b a := by
  rw [blt_toList, eq_toList]
  by_cases h : a = b
  · subst h; simp [blt_irrefl]
  · cases h2 : blt a b with
    | true => simp [blt_asymm h2]
    | false => simp [h, blt_total h h2]
end Go.Cib
namespace Go.Proofs.Ytcdgeeoajhbneaa
open Go.RowKit Go.Cib
theorem txtT : OneT Try.prog 42 9 (.string ByteArray.empty) 16 := .of (by kernel_rfl) (by kernel_rfl) rfl
abbrev OwnTexts (w : World) (B : Nat) (v : Value) (l : List ByteArray) : Prop := OwnVals w B 9 v (l.map .string)
/-- Block g is the document's book B. -/
structure BookAt (w : World) (g : Nat) (kv vv : Value) (B : List Kv) : Prop where
  hg : w.heap[g]? = some (.cells #[kv, vv] 44)
  hk : OwnTexts w 0 kv (B.map (·.1))
  hv : OwnTexts w 0 vv (B.map (·.2))
  ap : ∀ k ∈ vv.ownBlock.toList, k ∉ kv.ownBlock.toList
  up : Rising B
  len : B.length ≤ 100000
theorem BookAt.touch {w w' : World} {g : Nat} {kv vv : Value} {B : List Kv} {S : List Nat} (h : BookAt w g kv vv B) (ht : Tch S w w') (h1 : g ∉ S) (h2 : ∀ k ∈ kv.ownBlock.toList, k ∉ S) (h3 : ∀ k ∈ vv.ownBlock.toList, k ∉ S) : BookAt w' g kv vv B :=
  ⟨ht.heap h.hg h1, h.hk.kept ht (fun k hk => h2 k (by simp [hk])), h.hv.kept ht (fun k hk => h3 k (by simp [hk])), h.ap, h.up, h.len⟩
theorem BookAt.old {w w' : World} {g : Nat} {kv vv : Value} {B : List Kv} (h : BookAt w g kv vv B) (ht : Tch [] w w') : BookAt w' g kv vv B := h.touch ht (by simp) (by simp) (by simp)

set_option maxRecDepth 20000 in
set_option maxHeartbeats 1000000 in
theorem place_any {w : World} {g : Nat} {kv vv : Value} {B : List Kv} (h : BookAt w g kv vv B) (key : ByteArray) :
    Calls Try.prog 26 #[.pointer (some ⟨g, 0, none⟩), .string key] w fun e w' => e = .returned (.tuple #[.int .i64 (place B key), .bool (is B key)]) ∧ Tch [] w w' := by
  have H := Lib.hid h
  have hpl := place_le B key
  have hlen : B.length ≤ 100000 := h.len
  have hc := h.hk.cap_
  rw [List.length_map, List.length_map] at hc
  obtain ⟨a, cap, rfl, _, _⟩ := hc
  have c0 : w.cell? ⟨g, 0, none⟩ = some (.slice a B.length cap) := (cell_of_row w g 0 _ _ _ h.hg).trans (by simp)
  have CL : Hid (∀ j e, B[j]? = some e → ∃ b, a = some ⟨b, 0, none⟩ ∧ w.cell? ⟨b, j, none⟩ = some (.string e.1)) := by
    intro j e he
    obtain ⟨b, cap', e1, _, h2, _⟩ := h.hk.at_ (j := j) (x := .string e.1) (by rw [List.map_map, List.getElem?_map, he]; rfl)
    rw [List.length_map, List.length_map] at e1
    cases e1
    exact ⟨b, rfl, h2⟩
  clear h
  generalize hn : B.length = n at *
  have HN := Lib.hid hn
  clear hn
  have hi : Hid (is B key = decide (keyAt B (place B key) = some key)) := rfl
  generalize hp : place B key = p at *
  have HP := Lib.hid hp
  clear hp
  go_enter Try.func26, Try.ntmps26
  go_wp2_with fail
  go_loopg [6] n (fun q i wr => ∃ j, OnAt n i q j ∧ j ≤ p ∧ w = wr)
  case atStart => exact ⟨0, ⟨Nat.zero_le _, rfl, rfl⟩, Nat.zero_le _, rfl⟩
  case round =>
    obtain ⟨j, ⟨hj, rfl, rfl⟩, hjp, rfl⟩ := hrel
    by_cases hlt : j < p
    · have hjn : j < n := by omega
      have hx : B[j]? = some (B[j]'(by have := HN.out; omega)) := List.getElem?_eq_getElem _
      generalize B[j]'(by have := HN.out; omega) = e at *
      obtain ⟨b, rfl, hc⟩ := CL.out j e hx
      have hb : Op.bytesLess e.1.toList key.toList = true := by
        rw [blt_toList]
        refine place_lt (B := B) (i := j) ?_ hx
        rw [HP.out]; exact hlt
      clear hx
      go_wp2_with fail
      go_roundg (n - (j + 1))
      case measure => omega
      case rel => exact ⟨j + 1, ⟨by omega, by go_num, rfl⟩, by omega, rfl⟩
    · have hjp : j = p := by omega
      subst hjp
      by_cases hjn : j < n
      · have hx : B[j]? = some (B[j]'(by have := HN.out; omega)) := List.getElem?_eq_getElem _
        generalize B[j]'(by have := HN.out; omega) = e at *
        obtain ⟨b, rfl, hc⟩ := CL.out j e hx
        have hb : Op.bytesLess e.1.toList key.toList = false := by
          rw [blt_toList]
          refine place_at (B := B) ?_
          rw [HP.out]; exact hx
        have hs : is B key = (e.1.toList == key.toList) := by
          rw [hi.out, eq_toList]
          unfold keyAt
          rw [hx]
          simp
        clear hx
        go_wp2_with fail
        (refine wp_region_quiet_lit (by kernel_rfl) (by kernel_rfl) ?_; (repeat (first | fail | go_big_quiet_step (fail))); refine wpQuiet_nil ?_; intro _ hw'; obtain ⟨nq, hw''⟩ := hw'; subst hw'')
        go_wp2_with fail
        go_ret2
        rw [hs]
        exact ⟨rfl, tch_drewN _ _⟩
      · have hs : is B key = false := by
          rw [hi.out]
          unfold keyAt
          rw [List.getElem?_eq_none (by have := HN.out; omega)]
          rfl
        go_wp2_with fail
        (refine wp_region_quiet_lit (by kernel_rfl) (by kernel_rfl) ?_; (repeat (first | fail | go_big_quiet_step (fail))); refine wpQuiet_nil ?_; intro _ hw'; obtain ⟨nq, hw''⟩ := hw'; subst hw'')
        go_wp2_with fail
        go_ret2
        rw [hs]
        exact ⟨rfl, tch_drewN _ _⟩

theorem begins_extract (s p : ByteArray) : (s.extract 0 p.size = p) ↔ begins s p = true := by
  have e : tl (s.extract 0 p.size) = (tl s).take p.size := by
    unfold tl
    rw [ByteArray.data_extract, Array.toList_extract, List.extract_eq_take_drop]
    simp
  unfold begins
  rw [List.isPrefixOf_iff_prefix, List.prefix_iff_eq_take, tl_size]
  constructor
  · intro h1; rw [← e, h1]
  · intro h1; exact tl_inj (by rw [e]; exact h1.symm)
set_option maxRecDepth 20000 in
set_option maxHeartbeats 1000000 in
theorem begins_any (w : World) (s p : ByteArray) : Calls Try.prog 10 #[.string s, .string p] w fun e w' => e = .returned (.bool (begins s p)) ∧ w = w' := by
  by_cases hl : p.size ≤ s.size
  · have hb : ((s.extract 0 p.size).toList == p.toList) = begins s p := by
      rw [eq_toList, Bool.eq_iff_iff, decide_eq_true_eq]
      exact begins_extract s p
    go_enter Try.func10, Try.ntmps10
    go_wp2_with fail
    go_ret
    exact ⟨rfl, rfl⟩
  · have hb : begins s p = false := by
      cases h : begins s p with
      | false => rfl
      | true =>
        unfold begins at h
        have := (List.isPrefixOf_iff_prefix.1 h).length_le
        rw [tl_size, tl_size] at this
        omega
    go_enter Try.func10, Try.ntmps10
    go_wp2_with fail
    go_ret
    exact ⟨by rw [hb]; rfl, rfl⟩

set_option maxRecDepth 20000 in
set_option maxHeartbeats 1000000 in
theorem eqTexts_any {w : World} {u v : Value} {l m : List ByteArray} (ha : ValsV w u (l.map .string)) (hb : ValsV w v (m.map .string)) (_hl : l.length ≤ 1000000) (hm : m.length ≤ 1000000) :
    Calls Try.prog 20 #[u, v] w fun e w' => e = .returned (.bool (decide (l = m))) ∧ Tch [] w w' := by
  obtain ⟨a, ca, rfl, ha⟩ := ha
  obtain ⟨b, cb, rfl, hb⟩ := hb
  rw [List.length_map, List.length_map]
  have A1 : Hid (∀ j x, l[j]? = some x → ∃ k o, a = some ⟨k, o, none⟩ ∧ w.cell? ⟨k, o + j, none⟩ = some (.string x)) := fun j x hx => ha j _ (by rw [List.getElem?_map, hx]; rfl)
  have B1 : Hid (∀ j x, m[j]? = some x → ∃ k o, b = some ⟨k, o, none⟩ ∧ w.cell? ⟨k, o + j, none⟩ = some (.string x)) := fun j x hx => hb j _ (by rw [List.getElem?_map, hx]; rfl)
  clear ha hb
  by_cases hlm : l.length = m.length
  · generalize hn : m.length = n at *
    have N2 := Lib.hid hn
    have N1 := Lib.hid hlm
    rw [hlm]
    clear hn hlm
    go_enter Try.func20, Try.ntmps20
    go_wp2_with fail
    go_loopg [5] n (fun q i wr => ∃ j, OnAt n i q j ∧ l.take j = m.take j ∧ Tch [] w wr)
    case atStart => exact ⟨0, ⟨Nat.zero_le _, rfl, rfl⟩, rfl, Tch.refl _ _⟩
    case round =>
      obtain ⟨j, ⟨hj, rfl, rfl⟩, he, ht⟩ := hrel
      have E1 := Lib.hid he
      have T1 := Lib.hid ht
      clear he
      by_cases hjn : j < n
      · have hx : l[j]? = some (l[j]'(by have := N1.out; omega)) := List.getElem?_eq_getElem _
        have hy : m[j]? = some (m[j]'(by have := N2.out; omega)) := List.getElem?_eq_getElem _
        generalize l[j]'(by have := N1.out; omega) = x at *
        generalize m[j]'(by have := N2.out; omega) = y at *
        obtain ⟨ka, oa, rfl, hca⟩ := A1.out j _ hx
        obtain ⟨kb, ob, rfl, hcb⟩ := B1.out j _ hy
        have hca' := cell_old ht hca
        have hcb' := cell_old ht hcb
        have HX := Lib.hid hx
        have HY := Lib.hid hy
        have hxy : Hid ((x.toList == y.toList) = decide (x = y)) := eq_toList x y
        clear hca hcb ht hx hy
        by_cases hh : x = y
        · have hb : (x.toList == y.toList) = true := by rw [hh]; simp
          go_wp2_with fail
          (refine wp_region_quiet_lit (by kernel_rfl) (by kernel_rfl) ?_; (repeat (first | fail | go_big_quiet_step (fail))); refine wpQuiet_nil ?_; intro _ hw'; obtain ⟨nq, hw''⟩ := hw'; subst hw'')
          go_wp2_with fail
          go_roundg (n - (j + 1))
          case measure => omega
          case rel =>
            have h1 : l.take j = m.take j := E1.out
            have h2 : l[j]? = some x := HX.out
            have h3 : m[j]? = some y := HY.out
            refine ⟨j + 1, ⟨by omega, by go_num, rfl⟩, ?_, T1.out.trans (tch_drewN _ _)⟩
            rw [List.take_add_one, List.take_add_one, h1, h2, h3, hh]
        · have hb : (x.toList == y.toList) = false := by
            have := hxy.out
            rw [decide_eq_false hh] at this
            exact this
          go_wp2_with fail
          (refine wp_region_quiet_lit (by kernel_rfl) (by kernel_rfl) ?_; (repeat (first | fail | go_big_quiet_step (fail))); refine wpQuiet_nil ?_; intro _ hw'; obtain ⟨nq, hw''⟩ := hw'; subst hw'')
          go_wp2_with fail
          go_ret
          have hlm : decide (l = m) = false := by
            rw [decide_eq_false_iff_not]; rintro rfl
            have h2 : l[j]? = some x := HX.out
            have h3 : l[j]? = some y := HY.out
            rw [h2] at h3
            exact hh (Option.some.inj h3)
          exact ⟨by rw [hlm]; rfl, T1.out.trans (tch_drewN _ _)⟩
      · go_wp2_with fail
        go_ret
        have e1 : l.length = n := N1.out
        have e2 : m.length = n := N2.out
        have e3 : l.take j = m.take j := E1.out
        rw [List.take_of_length_le (by omega), List.take_of_length_le (by omega)] at e3
        exact ⟨by rw [decide_eq_true e3]; rfl, T1.out⟩
  · have hd : decide (l = m) = false := by
      rw [decide_eq_false_iff_not]; rintro rfl; exact hlm rfl
    have h1 : ¬ ((l.length : Int) = m.length) := by omega
    rw [hd]
    go_enter Try.func20, Try.ntmps20
    go_wp2_with fail
    go_ret
    exact ⟨rfl, Tch.refl _ _⟩
end Go.Proofs.Ytcdgeeoajhbneaa
