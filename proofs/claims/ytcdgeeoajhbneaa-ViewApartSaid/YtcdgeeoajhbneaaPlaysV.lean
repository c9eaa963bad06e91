/-
  Views and their twins: ViewPlays.
-/
import Derived.Test.YtcdgeeoajhbneaaHoldsV
import Derived.Test.YtcdgeeoajhbneaaWorksV
import Derived.Deep.CutBlock
import Derived.Deep.DeepCutAuto
namespace Go.Proofs.Ytcdgeeoajhbneaa
open Go.RowKit Go.Cib
/-- A script of layer 17, in memory. -/
def Ops17At (w : World) (a : Option Addr) (os : List OpV17) : Prop := ∀ (j : Nat) (o : OpV17), os[j]? = some o → ∃ b off, a = some ⟨b, off, none⟩ ∧
  w.cell? ⟨b, off + j * 5, none⟩ = some (.int .i64 o.what) ∧ w.cell? ⟨b, off + j * 5 + 1, none⟩ = some (.int .i64 o.at_) ∧ w.cell? ⟨b, off + j * 5 + 2, none⟩ = some (.int .i64 o.n) ∧
  w.cell? ⟨b, off + j * 5 + 3, none⟩ = some (.string o.key) ∧ w.cell? ⟨b, off + j * 5 + 4, none⟩ = some (.string o.val)
theorem own_one17 {w : World} {g base : Nat} {x : Value} {e : TypeId} (h : w.heap[g]? = some (.cells #[x] e)) (hb : base ≤ g) : OwnVals w base e (.slice (some ⟨g, 0, none⟩) 1 1) [x] :=
  ⟨rfl, .inr ⟨g, 1, #[x], rfl, hb, h, Nat.le_refl 1, by decide, rfl, rfl⟩⟩
/-- The world as it begins. -/
theorem begun17 {w w6 : World} {b X M c g lb mb W : Nat} (hW : w6.heap[W]? = some (.cells #[.slice (some ⟨lb, 0, none⟩) 1 1, .slice (some ⟨mb, 0, none⟩) 1 1] 31))
    (hl : w6.heap[lb]? = some (.cells #[ptr b] 24)) (hm : w6.heap[mb]? = some (.cells #[ptr c] 27)) (p : ByteArray) (hp : p.size ≤ 100) (hv : ViewAt w6 b X p) (hr : RViewAt w6 c g p) (hM : MemAt w6 X M []) (hB : BookAt w6 g (.slice none 0 0) (.slice none 0 0) [])
    (nl : w.heap.size ≤ lb) (nm : w.heap.size ≤ mb) (nW : w.heap.size ≤ W) (nM : w.heap.size ≤ M) (ng : w.heap.size ≤ g) :
    World17 w6 W X M g (.slice (some ⟨lb, 0, none⟩) 1 1) (.slice (some ⟨mb, 0, none⟩) 1 1) (.slice none 0 0) (.slice none 0 0) [b] [c] [p] [] [] 0 ∧ ∀ k ∈ own17 W M g (.slice (some ⟨lb, 0, none⟩) 1 1) (.slice (some ⟨mb, 0, none⟩) 1 1) (.slice none 0 0) (.slice none 0 0), w.heap.size ≤ k := by
  refine ⟨⟨hW, own_one17 hl (Nat.zero_le _), own_one17 hm (Nat.zero_le _), ?_, ?_, rfl, rfl, by simp, by simp, ?_, hM, hB, ?_, by simp, by simp, by simp⟩, ?_⟩
  · intro i b' p' h1 h2
    cases i with
    | zero => simp at h1 h2; subst h1 h2; exact hv
    | succ i => simp at h1
  · intro i b' p' h1 h2
    cases i with
    | zero => simp at h1 h2; subst h1 h2; exact hr
    | succ i => simp at h1
  · intro q hq
    rw [List.mem_singleton.1 hq]; exact hp
  · intro q _ k _
    rfl
  · intro k hk
    unfold own17 at hk
    simp [Value.ownBlock] at hk
    omega
/-- The state of the play. -/
def Play17 (w wx : World) (W X M g j : Nat) : Prop :=
  ∃ lv mv kv vv ls ms ps A B, World17 wx W X M g lv mv kv vv ls ms ps A B j ∧ Tch [] w wx ∧ ∀ k ∈ own17 W M g lv mv kv vv, w.heap.size ≤ k
theorem Play17.step {w wx wy : World} {W X M g j : Nat} {lv mv kv vv : Value} (ht : Tch [] w wx) (ho : ∀ k ∈ own17 W M g lv mv kv vv, w.heap.size ≤ k) (h2 : OutB w.heap.size wx W X M g lv mv kv vv j wy) : Play17 w wy W X M g (j + 1) := by
  obtain ⟨lv', mv', kv', vv', ls', ms', ps', A', B', k1, k2, k3⟩ := h2
  exact ⟨lv', mv', kv', vv', ls', ms', ps', A', B', k1, ((ht.mono (by simp)).trans k2).drop fun k hk => .inr (ho k hk), k3⟩
set_option maxRecDepth 20000 in
set_option maxHeartbeats 2000000 in
theorem viewPlays_any (w : World) (a : Option Addr) (cap : Nat) (os : List OpV17) (ho : Ops17At w a os) (hl : os.length ≤ 9223372036854775807) (hf : ∀ o ∈ os, o.Fits) :
    Calls Try.prog 3 #[.slice a os.length cap] w fun e w' => e = .returned (.bool true) ∧ Tch [] w w' := by
  have HO := Lib.hid ho
  have HF := Lib.hid hf
  have HLEN := Lib.hid hl
  clear ho hf
  generalize hm : os.length = m at *
  have HM := Lib.hid hm
  clear hm
  go_enter Try.func3, Try.ntmps3
  go_wp2_with fail
  refine (vmem_any _).mono ?_
  rintro e w1 ⟨k1, b, X, M, rfl, v1, m1, s1, s2, s3⟩
  have K1 := Lib.hid k1
  have V1 := Lib.hid v1
  have M1 := Lib.hid m1
  have S1 := Lib.hid (And.intro s1 (And.intro s2 s3))
  clear k1 v1 m1 s1 s2 s3
  go_wp2_with fail
  refine (rmem_any _).mono ?_
  rintro e w2 ⟨k2, c, g, rfl, v2, b2, s4, s5⟩
  have K2 := Lib.hid k2
  have V2 := Lib.hid v2
  have B2 := Lib.hid b2
  have S2 := Lib.hid (And.intro s4 s5)
  clear k2 v2 b2 s4 s5
  have t6 : Tch [] w2 ((w2.alloc (.cells #[.pointer (some ⟨c, 0, none⟩)] 27)).alloc (.cells #[.slice (some ⟨w1.heap.size, 0, none⟩) 1 1, .slice (some ⟨w2.heap.size, 0, none⟩) 1 1] 31)) := ((Tch.refl _ _).alloc _).alloc _
  have hl1 : (w1.alloc (.cells #[.pointer (some ⟨b, 0, none⟩)] 24)).heap[w1.heap.size]? = some (.cells #[.pointer (some ⟨b, 0, none⟩)] 24) := heap_alloc_new _ _
  have t12 : Tch [] w1 w2 := ((Tch.refl _ _).alloc _).trans K2.out
  have hl6 := t6.heap (K2.out.heap hl1 (by simp)) (by simp)
  have hm1 : (w2.alloc (.cells #[.pointer (some ⟨c, 0, none⟩)] 27)).heap[w2.heap.size]? = some (.cells #[.pointer (some ⟨c, 0, none⟩)] 27) := heap_alloc_new _ _
  have hm6 := ((Tch.refl [] _).alloc (.cells #[.slice (some ⟨w1.heap.size, 0, none⟩) 1 1, .slice (some ⟨w2.heap.size, 0, none⟩) 1 1] 31)).heap hm1 (by simp)
  have hW1 := heap_alloc_new (w2.alloc (.cells #[.pointer (some ⟨c, 0, none⟩)] 27)) (.cells #[.slice (some ⟨w1.heap.size, 0, none⟩) 1 1, .slice (some ⟨w2.heap.size, 0, none⟩) 1 1] 31)
  rw [show (w2.alloc (.cells #[.pointer (some ⟨c, 0, none⟩)] 27)).heap.size = w2.heap.size + 1 by simp] at hW1
  have c6 := (cell_of_row _ _ 0 _ _ _ hl6).trans rfl
  have z1 := K1.out.size
  have z2 := t12.size
  have HP : Hid (Play17 w ((w2.alloc (.cells #[.pointer (some ⟨c, 0, none⟩)] 27)).alloc (.cells #[.slice (some ⟨w1.heap.size, 0, none⟩) 1 1, .slice (some ⟨w2.heap.size, 0, none⟩) 1 1] 31)) (w2.heap.size + 1) X M g 0) := by
    obtain ⟨q1, q2⟩ := begun17 (w := w) hW1 hl6 hm6 ByteArray.empty (by decide) (V1.out.touch (t12.trans t6) (by simp)) (V2.out.touch t6 (by simp)) (M1.out.old (t12.trans t6)) (B2.out.old t6) (by omega) (by omega) (by omega) (S1.out.2.2) (by have := S2.out.2; simp at this; omega)
    exact ⟨_, _, _, _, _, _, _, _, _, q1, (K1.out.trans t12).trans t6, q2⟩
  have C6 : Hid (((w2.alloc (.cells #[.pointer (some ⟨c, 0, none⟩)] 27)).alloc (.cells #[.slice (some ⟨w1.heap.size, 0, none⟩) 1 1, .slice (some ⟨w2.heap.size, 0, none⟩) 1 1] 31)).cell? ⟨w1.heap.size, 0, none⟩ = some (.pointer (some ⟨b, 0, none⟩))) := c6
  clear t6 hl1 t12 hl6 hm1 hm6 hW1 c6 z1 z2 K1 V1 M1 S1 K2 V2 B2 S2
  have c6 := C6.out
  go_upto_block 0 with fail
  generalize w2.heap.size + 1 = W at *
  go_cut [4] from 18 to 34 (fun _ wx => ∃ j, j ≤ 100 ∧ Play17 w wx W X M g j)
  case first =>
    go_wp2_with fail
    go_loopg [4] 100 (fun q i wr => ∃ j, OnAt 100 i q j ∧ Play17 w wr W X M g j)
    case atStart => exact ⟨0, ⟨Nat.zero_le _, rfl, rfl⟩, HP.out⟩
    case round =>
      obtain ⟨j, ⟨hj, rfl, rfl⟩, hP⟩ := hrel
      clear HP
      have HP := Lib.hid hP
      clear hP
      by_cases hj1 : j < m
      · by_cases hj2 : j < 100
        · have hlen' : os.length = m := HM.out
          have hx : os[j]? = some (os[j]'(by omega)) := List.getElem?_eq_getElem _
          obtain ⟨kb, ko, rfl, k0, k1, k2, k3, k4⟩ := HO.out j _ hx
          have hfo := HF.out _ (List.mem_of_getElem? hx)
          generalize os[j]'(by omega) = o at *
          obtain ⟨lv, mv, kv, vv, ls, ms, ps, A, B, hw, ht, hown⟩ := HP.out
          have d0 := cell_old ht k0
          have d1 := cell_old ht k1
          have d2 := cell_old ht k2
          have d3 := cell_old ht k3
          have d4 := cell_old ht k4
          have CD : Hid (Calls Try.prog 7 #[.pointer (some ⟨W, 0, none⟩), .agg #[.int .i64 o.what, .int .i64 o.at_, .int .i64 o.n, .string o.key, .string o.val]] wr fun e w' => e = .returned (.bool true) ∧ Play17 w w' W X M g (j + 1)) := (does17_any hw (by omega) o hfo ht.size hown).mono fun e w' ⟨h1, h2⟩ => ⟨h1, Play17.step ht hown h2⟩
          clear hw ht hown k0 k1 k2 k3 k4 hfo hx hlen'
          go_wp2_with (go_at_call 7; refine CD.out.mono ?_; rintro e w5 ⟨rfl, hq1⟩; have HQ := Lib.hid hq1; clear hq1)
          go_roundg (100 - (j + 1))
          case measure => omega
          case rel => exact ⟨j + 1, ⟨by omega, by go_num, rfl⟩, HQ.out⟩
        · go_wp2_with fail
          go_meet
          exact ⟨_, hj, HP.out⟩
      · go_wp2_with fail
        go_meet
        exact ⟨_, hj, HP.out⟩
  case rest =>
  obtain ⟨j, hj, hP⟩ := hcut
  obtain ⟨lv, mv, kv, vv, ls, ms, ps, A, B, hw, ht, hown⟩ := hP
  have CH := Lib.hid (holds17_any hw (by omega))
  have HT := Lib.hid ht
  clear HP hw ht hown
  go_wp2_with (first | (go_at_call 8; refine CH.out.mono ?_; rintro e w5 ⟨rfl, hq1⟩; have HQ := Lib.hid (HT.out.trans hq1); clear hq1 CH) | (go_at_call 9; refine (works17_any _).mono ?_; rintro e w7 ⟨rfl, hq1⟩; have HR := Lib.hid (HQ.out.trans hq1); clear hq1))
  go_ret
  exact ⟨rfl, HR.out⟩
end Go.Proofs.Ytcdgeeoajhbneaa
