/-
  Views: ciboriumlaw17's works.
-/
import Derived.Test.YtcdgeeoajhbneaaGreatViewB
namespace Go.Cib
open Go
abbrev tA : ByteArray := ⟨#[97, 47]⟩
abbrev tAB : ByteArray := ⟨#[97, 47, 98]⟩
abbrev tB : ByteArray := ⟨#[98]⟩
abbrev tC : ByteArray := ⟨#[99]⟩
abbrev t1 : ByteArray := ⟨#[49]⟩
abbrev t2 : ByteArray := ⟨#[50]⟩
abbrev wL1 : List Kv := [(tAB, t1)]
abbrev wL2 : List Kv := [(tAB, t1), (tC, t2)]
theorem wE0 : ByteArray.empty ++ tA = tA := by decide +kernel
theorem wE1 : vput [] tA tB t1 = (0, wL1) := by decide +kernel
theorem wE2 : vput wL1 ByteArray.empty tC t2 = (0, wL2) := by decide +kernel
theorem wE3 : vget wL2 ByteArray.empty tAB = (t1, true, 0) := by decide +kernel
theorem wE4 : vlist wL2 tA ByteArray.empty ByteArray.empty 9 = [tB] := by decide +kernel
end Go.Cib
namespace Go.Proofs.YtcdgeeoajhbneaaGreat
open Go.RowKit Go.Cib
theorem MemAt.nview {w : World} {X M b : Nat} {p : ByteArray} {B : List Kv} {Y : Nat} (h : MemAt w X M B) (hv : ViewAt w b Y p) : b ∉ [M] := by
  obtain ⟨es, clk, hM, _⟩ := h.hM
  intro hm
  have : b = M := by simpa using hm
  unfold ViewAt at hv
  rw [this, hM] at hv; cases hv
set_option maxRecDepth 20000 in
set_option maxHeartbeats 1000000 in
theorem works17_any (w : World) : Calls Tryz.prog 11 #[] w fun e w' => e = .returned (.bool true) ∧ Tch [] w w' := by
  have C1 : Hid (∀ W b X, ViewAt W b X ByteArray.empty → Calls Tryz.prog 5 #[.pointer (some ⟨b, 0, none⟩), .string tA] W fun e w' => ∃ x, e = .returned (.tuple #[.pointer (some ⟨x, 0, none⟩), .int .i64 0]) ∧ Tch [] W w' ∧ ViewAt w' x X tA ∧ W.heap.size ≤ x) := fun W b X h => (vsub_any h (by decide) tA (by decide)).mono fun e w' ⟨h1, h2⟩ => h2.elim (fun h => absurd h.1 (by decide)) fun ⟨_, g, e1, h3, h4⟩ => ⟨g, e1, h1, by rw [wE0] at h3; exact h3, h4⟩
  have C2 : Hid (∀ W b X M, ViewAt W b X tA → MemAt W X M [] → Calls Tryz.prog 10 #[.pointer (some ⟨b, 0, none⟩), .string tB, .string t1] W fun e w' => e = .returned (.int .i64 0) ∧ MemAt w' X M wL1 ∧ Tch [M] W w') := fun W b X M h hm => by
    have := vput_any h (by decide) hm (by decide) tB t1 (by decide)
    rwa [wE1] at this
  have C3 : Hid (∀ W b X M, ViewAt W b X ByteArray.empty → MemAt W X M wL1 → Calls Tryz.prog 10 #[.pointer (some ⟨b, 0, none⟩), .string tC, .string t2] W fun e w' => e = .returned (.int .i64 0) ∧ MemAt w' X M wL2 ∧ Tch [M] W w') := fun W b X M h hm => by
    have := vput_any h (by decide) hm (by decide) tC t2 (by decide)
    rwa [wE2] at this
  have C4 : Hid (∀ W b X M, ViewAt W b X ByteArray.empty → MemAt W X M wL2 → Calls Tryz.prog 6 #[.pointer (some ⟨b, 0, none⟩), .string tAB] W fun e w' => e = .returned (.tuple #[.string t1, .bool true, .int .i64 0]) ∧ Tch [] W w') := fun W b X M h hm => by
    have := vget_any h (by decide) hm tAB
    rwa [wE3] at this
  have C5 : Hid (∀ W b X M, ViewAt W b X tA → MemAt W X M wL2 → Calls Tryz.prog 8 #[.pointer (some ⟨b, 0, none⟩), .string ByteArray.empty, .string ByteArray.empty, .int .i64 9] W fun e w' => Tch [] W w' ∧ ∃ g cap, e = .returned (.tuple #[.slice (some ⟨g, 0, none⟩) 1 cap, .int .i64 0]) ∧ w'.cell? ⟨g, 0, none⟩ = some (.string tB)) := fun W b X M h hm => by
    have := vlist_any h (by decide) hm ByteArray.empty ByteArray.empty (by decide) (by decide) 9
    rw [if_neg (by decide), if_neg (by decide), show Int.toNat 9 = 9 from rfl, wE4] at this
    refine this.mono fun e w' ⟨h1, v, e1, h2⟩ => ⟨h1, ?_⟩
    obtain ⟨g, cap, e2, _, h3, _⟩ := h2.at_ (j := 0) (x := .string tB) rfl
    subst e2
    exact ⟨g, cap, e1, h3⟩
  go_enter Tryz.func11, Tryz.ntmps11
  go_wp2_with (first
    | (go_at_call 15; refine (vmem_any _).mono ?_; rintro e w1 ⟨k1, b, X, M, rfl, v1, m1, s1, s2, s3⟩; have HT1 := Lib.hid k1; have HV1 := Lib.hid v1; have HM1 := Lib.hid m1; have HS := Lib.hid s3; clear k1 v1 m1 s1 s2 s3)
    | (go_at_call 5; refine (C1.out _ _ _ HV1.out).mono ?_; rintro e w2 ⟨x, rfl, k2, v2, s2⟩; have HT2 := Lib.hid (HT1.out.trans k2); have HV2 := Lib.hid v2; have HV3 := Lib.hid (HV1.out.touch k2 (by simp)); have HM2 := Lib.hid (HM1.out.old k2); clear k2 v2 s2 C1)
    | (go_at_call 10; refine (C2.out _ _ _ _ HV2.out HM2.out).mono ?_; rintro e w3 ⟨rfl, m3, k3⟩; have HT3 := Lib.hid ((HT2.out.mono (by simp)).trans k3); have HV4 := Lib.hid (HV2.out.touch k3 (HM2.out.nview HV2.out)); have HV5 := Lib.hid (HV3.out.touch k3 (HM2.out.nview HV3.out)); have HM3 := Lib.hid m3; clear m3 k3 C2)
    | (go_at_call 10; refine (C3.out _ _ _ _ HV5.out HM3.out).mono ?_; rintro e w4 ⟨rfl, m4, k4⟩; have HT4 := Lib.hid (HT3.out.trans k4); have HV6 := Lib.hid (HV4.out.touch k4 (HM3.out.nview HV4.out)); have HV7 := Lib.hid (HV5.out.touch k4 (HM3.out.nview HV5.out)); have HM4 := Lib.hid m4; clear m4 k4 C3)
    | (go_at_call 6; refine (C4.out _ _ _ _ HV7.out HM4.out).mono ?_; rintro e w5 ⟨rfl, k5⟩; have HT5 := Lib.hid (HT4.out.trans (k5.mono (by simp))); have HV8 := Lib.hid (HV6.out.touch k5 (by simp)); have HM5 := Lib.hid (HM4.out.old k5); clear k5 C4)
    | (go_at_call 8; refine (C5.out _ _ _ _ HV8.out HM5.out).mono ?_; rintro e w6 ⟨k6, g, cap, rfl, c6⟩; have HT6 := Lib.hid (HT5.out.trans (k6.mono (by simp))); clear k6 C5))
  go_ret
  exact ⟨rfl, HT6.out.drop (by have := HS.out; simp; omega)⟩
end Go.Proofs.YtcdgeeoajhbneaaGreat
