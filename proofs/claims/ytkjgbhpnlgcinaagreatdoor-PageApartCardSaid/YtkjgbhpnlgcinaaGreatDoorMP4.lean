/-
  Pages in memory: package page's Take.
-/
import Derived.Test.YtkjgbhpnlgcinaaGreatDoorMP3
import Derived.WalkMore
import Derived.Test.YtkjgbhpnlgcinaaGreatDoorMF2
import Derived.Test.YtkjgbhpnlgcinaaGreatDoorMR2
import Derived.Test.YtkjgbhpnlgcinaaGreatDoorMArrs
namespace Go.Cib
open Go Go.RowKit
theorem StS.first_cases (s : StS) : ∀ k, (∃ m, m < k ∧ s.taken m = false ∧ (∀ j, j < m → s.taken j = true) ∧ s.first k = some m) ∨ ((∀ j, j < k → s.taken j = true) ∧ s.first k = none)
  | 0 => .inr ⟨fun j hj => by omega, rfl⟩
  | k + 1 => by
    have e : s.first (k + 1) = (s.first k).or (if s.taken k = true then none else some k) := by
      unfold StS.first
      rw [List.range_succ, List.find?_append]
      congr 1
      cases h : s.taken k <;> simp [h]
    rcases StS.first_cases s k with ⟨m, h1, h2, h3, h4⟩ | ⟨h1, h2⟩
    · exact .inl ⟨m, by omega, h2, h3, by rw [e, h4]; rfl⟩
    · rw [e, h2]
      cases h : s.taken k with
      | true =>
        refine .inr ⟨fun j hj => ?_, by simp⟩
        by_cases hjk : j = k
        · rw [hjk, h]
        · exact h1 j (by omega)
      | false => exact .inl ⟨k, by omega, h, fun j hj => h1 j hj, by simp⟩
theorem StS.first_spec (s : StS) (pages : Nat) (h : s.taken pages = false) : ∃ m, m ≤ pages ∧ s.taken m = false ∧ (∀ j, j < m → s.taken j = true) ∧ s.first pages = if m < pages then some m else none := by
  rcases s.first_cases pages with ⟨m, h1, h2, h3, h4⟩ | ⟨h1, h2⟩
  · exact ⟨m, by omega, h2, h3, by rw [if_pos h1, h4]⟩
  · exact ⟨pages, Nat.le_refl _, h, h1, by rw [if_neg (by omega), h2]⟩
theorem StS.word_full (s : StS) (i : Nat) (h : ∀ j, j < 64 → s.taken (64 * i + j) = true) : s.word i = 18446744073709551615 := by
  unfold StS.word
  rw [bitsN_congr (g := fun _ => true) fun j hj => h j hj]
  decide +kernel
theorem StS.word_not_full (s : StS) (i j : Nat) (hj : j < 64) (h : s.taken (64 * i + j) = false) : s.word i ≠ 18446744073709551615 := by
  intro e
  have : (s.word i).testBit j = false := by
    unfold StS.word
    rw [bitsN_test, h]; simp
  rw [e, show (18446744073709551615 : Nat) = 2 ^ 64 - 1 from by decide, Nat.testBit_two_pow_sub_one, decide_eq_true hj] at this
  cases this
theorem StS.not_test (s : StS) (i j : Nat) (hj : j < 64) : (18446744073709551615 - s.word i).testBit j = !s.taken (64 * i + j) := by
  rw [show 18446744073709551615 - s.word i = 2 ^ 64 - (s.word i + 1) by omega, Nat.testBit_two_pow_sub_succ (by have := s.word_lt i; omega), decide_eq_true hj, Bool.true_and]
  unfold StS.word
  rw [bitsN_test, decide_eq_true hj, Bool.true_and]
end Go.Cib
namespace Go.Proofs.YtkjgbhpnlgcinaaGreatDoor
open Go.RowKit Go.Cib
theorem u64_not (x : Nat) (hx : x < 18446744073709551616) : bits .xor .u64 18446744073709551615 (x : Int) = ((18446744073709551615 - x : Nat) : Int) := by
  show IntKind.u64.wrap ((BitVec.ofInt 64 18446744073709551615 ^^^ BitVec.ofInt 64 (x : Int)).toNat : Int) = _
  have h1 : BitVec.ofInt 64 18446744073709551615 = BitVec.allOnes 64 := by decide
  rw [h1, BitVec.allOnes_xor, BitVec.toNat_not, ofInt_u64 x hx, IntKind.wrap_u64]
  omega
theorem wc_not_u64 {P : Program} {ops : Array Oper} {rest : List Oper} {a : Act} {w : World} {Q : Exit → Act → World → Prop} {dst : Option Tmp} {ty : TypeId} {pos : String} {af : Array Edge} {T : TypeId} {x : Operand} {X v : Nat} (hX : X < 18446744073709551616) (hv : v = 18446744073709551615 - X) (hx : a.eval x = .int .u64 (X : Int))
    (h : wpList P ops Q rest (a.put dst (.int .u64 (v : Int))) w) : wpList P ops Q (⟨dst, .unOp .xor T x, ty, pos, af, none⟩ :: rest) a w := by
  refine wc_value rfl ?_ h
  rw [hv, ← u64_not X hX]
  unfold execOp
  simp only [hx]
  rfl
theorem wc_neq_u64 {P : Program} {ops : Array Oper} {rest : List Oper} {a : Act} {w : World} {Q : Exit → Act → World → Prop} {dst : Option Tmp} {ty : TypeId} {pos : String} {af : Array Edge} {T yt : TypeId} {x y : Operand} {X Y : Int} {b : Bool} (hx : a.eval x = .int .u64 X) (hy : a.eval y = .int .u64 Y) (hb : (X != Y) = b)
    (h : wpList P ops Q rest (a.put dst (.bool b)) w) : wpList P ops Q (⟨dst, .binOp .neq T x y yt, ty, pos, af, none⟩ :: rest) a w := by
  refine wc_value rfl ?_ h
  unfold execOp
  simp [hx, hy, binOp, eqGuard, Op.intCmp, hb]
set_option maxRecDepth 20000 in
set_option maxHeartbeats 1000000 in
theorem ptake_any {w : World} {p g d L M V Mo : Nat} {P : PgS} (h : PgAt w p g d L M V Mo P) (ok : P.Ok) :
    Calls Tryz.prog 12 #[.pointer (some ⟨p, 0, none⟩)] w fun e w' => e = .returned (.tuple #[.int .i64 P.take.1.1, .int .i64 P.take.1.2]) ∧ PgAt w' p g d L M V Mo P.take.2 ∧ Tch [p, Mo] w w' := by
  have c1 := h.c1
  have p4 := ok.p4
  obtain ⟨m, hm1, hm2, hm3, hm4⟩ := P.now.first_spec P.pages (ok.now _ (Nat.le_refl _))
  have HP := Lib.hid h.hp
  have HW := Lib.hid (pgA_now g P.pages P.now P.last Mo).words
  have HSZ : Hid (3 + 256 ≤ (pgA g P.pages P.now P.last Mo).size) := by show _ ≤ _; rw [size_pgA]; omega
  have H := Lib.hid h
  have HM2 := Lib.hid hm2
  have HM3 := Lib.hid hm3
  have HM4 := Lib.hid hm4
  have HGET := Lib.hid (fun (j : Nat) (hj : j < 256) => wordsA_get P.now hj)
  generalize wordsA P.now = WA at *
  clear h ok hm2 hm3 hm4
  go_enter Tryz.func12, Tryz.ntmps12
  go_wp2_with fail
  go_step3
  go_wp2_with fail
  go_step3
  go_upto_block 0 with ((with_reducible refine wc_load_part wordsT.agg HP.out HSZ.out HW.out ?_ ?_); exact rfl; go_frame)
  go_cut [4] from 18 to 30 (fun v wx => v = .int .i64 (m : Nat) ∧ w = wx)
  case first =>
    go_wp2_with fail
    go_loopg [4, 5, 6, 18] 256 (fun q v _ _ i wr => ∃ j : Nat, OnAt 256 i q j ∧ v = .int .i64 P.pages ∧ w = wr ∧ 64 * j ≤ m)
    case atStart => exact ⟨0, ⟨Nat.zero_le _, rfl, rfl⟩, rfl, rfl, Nat.zero_le _⟩
    case round =>
      obtain ⟨j, ⟨hj, rfl, rfl⟩, rfl, rfl, hjm⟩ := hrel
      have hjb : (j : Int) < 256 := by omega
      have HJ : Hid (j < 256) := by show _ < _; omega
      have HJM := Lib.hid hjm
      have HM1 := Lib.hid hm1
      have hg := HGET.out j HJ.out
      have hxl := P.now.word_lt j
      obtain ⟨x, hx⟩ : ∃ x, P.now.word j = x := ⟨_, rfl⟩
      rw [hx] at hg hxl
      have HG := Lib.hid hg
      by_cases hin : m < 64 * (j + 1)
      · obtain ⟨t, ht⟩ : ∃ t, m = 64 * j + t := ⟨m - 64 * j, by omega⟩
        have hnf := P.now.word_not_full j t (by omega) (by rw [← ht]; exact HM2.out)
        rw [hx] at hnf
        have HNF : Hid (((x : Int) != 18446744073709551615) = true) := by show _ = _; simp; omega
        obtain ⟨v, hv⟩ : ∃ v, v = 18446744073709551615 - x := ⟨_, rfl⟩
        have CT : Hid (Calls Tryz.prog 50 #[.int .u64 (v : Int)] w fun e w' => e = .returned (.int .i64 t) ∧ w = w') := by
          refine tz64_any v t (by omega) (fun k hk => ?_) ?_ w H.out.tab
          · rw [hv, ← hx, P.now.not_test j k (by omega), HM3.out _ (by omega)]; rfl
          · rw [hv, ← hx, P.now.not_test j t (by omega), ← ht, HM2.out]; rfl
        have HV := Lib.hid hv
        have htb : (t : Int) < 64 := by omega
        have hjb2 : (j : Int) ≤ 60 := by omega
        have HXL := Lib.hid hxl
        clear hj hjm hm1 hg hx hnf hin hxl hv
        have HT := Lib.hid ht
        clear ht
        go_upto_region 7 with (first | ((with_reducible refine wc_index_num wordsT HJ.out HG.out ?_ ?_ ?_); exact rfl; exact rfl; go_frame))
        have HB := Lib.hid (And.intro p4 (And.intro hjb (And.intro htb hjb2)))
        clear p4 hjb htb hjb2
        go_upto_if 23 with ((with_reducible refine wc_neq_u64 (X := (x : Int)) ?_ ?_ HNF.out ?_); exact rfl; exact rfl; go_frame)
        obtain ⟨a, ha⟩ : ∃ a, a = 64 * j := ⟨_, rfl⟩
        have e1 : wrap64 (64 * (j : Int)) = (a : Int) := by
          obtain ⟨p4, hjb, htb, hjb2⟩ := HB.out
          unfold wrap64; omega
        have e2 : wrap64 ((a : Int) + (t : Int)) = (m : Int) := by
          obtain ⟨p4, hjb, htb, hjb2⟩ := HB.out
          have := HT.out
          unfold wrap64; omega
        clear ha
        go_wp2_with (first | ((with_reducible refine wc_not_u64 (X := x) (v := v) HXL.out HV.out ?_ ?_); exact rfl; go_frame) | (go_at_call 50; refine CT.out.mono ?_; rintro e w' ⟨rfl, rfl⟩))
        go_meet
        exact ⟨by rw [e2], rfl⟩
      · have hfull : x = 18446744073709551615 := by rw [← hx]; exact P.now.word_full j fun k hk => HM3.out _ (by omega)
        have HFX : Hid (((x : Int) != 18446744073709551615) = false) := by show _ = _; rw [hfull]; rfl
        have HIN := Lib.hid hin
        clear hj hjm hm1 hg hx hin hfull hxl
        go_upto_region 7 with (first | ((with_reducible refine wc_index_num wordsT HJ.out HG.out ?_ ?_ ?_); exact rfl; exact rfl; go_frame))
        have HB := Lib.hid (And.intro p4 hjb)
        clear p4 hjb
        go_upto_if 23 with ((with_reducible refine wc_neq_u64 (X := (x : Int)) ?_ ?_ HFX.out ?_); exact rfl; exact rfl; go_frame)
        obtain ⟨p4, hjb⟩ := HB.out
        go_wp2_with fail
        go_roundg (256 - (j + 1))
        case measure => (have := HJ.out; omega)
        case rel => exact ⟨j + 1, ⟨by (have := HJ.out; omega), by go_num, rfl⟩, rfl, rfl, by (have := HIN.out; omega)⟩
  case rest =>
    obtain ⟨rfl, rfl⟩ := hcut
    by_cases hmp : m < P.pages
    · have e : P.take = (((m : Int), 0), { P with now := P.now.set m true, over := fun j => if j = (m : Int) then some Arr.zero else P.over j }) := by
        unfold PgS.take; rw [HM4.out, if_pos hmp]
      have E := Lib.hid e
      have CS : Hid (Calls Tryz.prog 51 #[.pointer (some ⟨p, 3, none⟩), .int .i64 m, .bool true] w fun e' w' => e' = .returned (.tuple #[]) ∧ PgAt w' p g d L M V Mo { P with now := P.now.set m true } ∧ Tch [p] w w') := (set_any H.out.hp (pgA_now _ _ _ _ _) m (by omega) true).mono fun e' w' ⟨a1, a2, a3⟩ => ⟨a1, H.out.set_now (by omega) a3 a2, a2⟩
      have hmp1 : ¬ ((P.pages : Int) ≤ m) := by omega
      clear e p4 hm1 hmp
      go_wp2_with (first | (go_at_call 51; refine CS.out.mono ?_; rintro e w5 ⟨rfl, q1, q2⟩; have Q1 := Lib.hid q1; have Q2 := Lib.hid q2; have cM5 := q1.cM; clear q1 q2) | ((with_reducible apply wc_build_arr pageT); exact rfl; go_frame) | ((with_reducible refine wc_mapUpdate (m := .tmp 45) (k := .tmp 46) (x := .tmp 47) (kk := (m : Int)) (v := .agg (secA (Arr.zero : Page))) keyI uMapPage Q1.out.hM ?_ ?_ ?_ ?_); exact rfl; exact rfl; exact rfl; intro w6 t6 h6; rw [overV_upd] at h6; go_frame; have H6 := Lib.hid (Q1.out.over h6 t6); have T6 : Hid (Tch [p, Mo] w w6) := (Q2.out.mono (by simp)).trans (t6.mono (by simp)); clear t6 h6))
      try rw [Exit.noGoto_ret]
      go_ret2
      rw [E.out]
      exact ⟨rfl, H6.out, T6.out⟩
    · have e : P.take = ((0, 5), P) := by
        unfold PgS.take; rw [HM4.out, if_neg hmp]
      have E := Lib.hid e
      have hmp1 : (P.pages : Int) ≤ m := by omega
      clear e p4 hm1 hmp
      go_wp2_with fail
      try rw [Exit.noGoto_ret]
      go_ret2
      rw [E.out]
      exact ⟨rfl, H.out, Tch.refl _ _⟩
end Go.Proofs.YtkjgbhpnlgcinaaGreatDoor
/-
  Package page's bitPages, fits, Make.
-/
namespace Go.Cib
open Go Go.RowKit
/-- What 'fits' answers. -/
def PgS.fit (L : LogS) : Int × Int := if PgS.count L < 3 then (0, 2) else (1, 0)
end Go.Cib
namespace Go.Proofs.YtkjgbhpnlgcinaaGreatDoor
open Go.RowKit Go.Cib
theorem bitPages_any (n : Nat) (hn : n ≤ 3840) (w : World) : Calls Tryz.prog 108 #[.int .i64 n] w fun e w' => e = .returned (.int .i64 (if n = 0 then 0 else 1)) ∧ w = w' := by
  have e1 : wrap64 ((n : Int) + 3840) = (n : Int) + 3840 := by unfold wrap64; omega
  have e2 : wrap64 ((n : Int) + 3840 - 1) = (n : Int) + 3839 := by unfold wrap64; omega
  have e3 : ((n : Int) + 3839).tdiv 3840 = (if n = 0 then 0 else 1 : Int) := by
    rw [Int.tdiv_eq_ediv_of_nonneg (by omega)]
    split <;> omega
  have e4 : wrap64 ((n : Int) + 3839) = (n : Int) + 3839 := by unfold wrap64; omega
  have e5 : wrap64 (if n = 0 then 0 else 1 : Int) = (if n = 0 then 0 else 1 : Int) := by split <;> (unfold wrap64; omega)
  obtain ⟨r, hr⟩ : ∃ r : Int, r = (if n = 0 then 0 else 1 : Int) := ⟨_, rfl⟩
  rw [← hr] at e3 e5 ⊢
  have E12 := Lib.hid (And.intro e1 e2)
  clear hn e1 e2 hr
  go_enter Tryz.func108, Tryz.ntmps108
  go_wp2_with fail
  go_ret
  refine ⟨?_, rfl⟩
  show Ending.returned (.int .i64 (wrap64 ((wrap64 (wrap64 ((n : Int) + 3840) - 1)).tdiv 3840))) = _
  rw [E12.out.1, E12.out.2, e3, e5]
theorem fits_any {w : World} {g d L M V : Nat} {S : LogS} (h : LogAt w g d L M V S) (hp : S.pages ≤ 3840) : Calls Tryz.prog 56 #[.pointer (some ⟨g, 0, none⟩)] w fun e w' => e = .returned (.tuple #[.int .i64 (PgS.fit S).1, .int .i64 (PgS.fit S).2]) ∧ w = w' := by
  have CP : Hid (Calls Tryz.prog 57 #[.pointer (some ⟨g, 0, none⟩)] w fun e w' => e = .returned (.int .i64 (PgS.count S : Nat)) ∧ w = w') := (pages_any h).mono fun e w' ⟨a1, a2⟩ => ⟨by rw [a1]; unfold PgS.count; split <;> rfl, a2⟩
  have hc : PgS.count S ≤ 3840 := by unfold PgS.count; split <;> omega
  have CB := Lib.hid (fun W => bitPages_any (PgS.count S) hc W)
  obtain ⟨c, hcc⟩ : ∃ c, PgS.count S = c := ⟨_, rfl⟩
  have e : PgS.fit S = if c < 3 then (0, 2) else (1, 0) := by unfold PgS.fit; rw [hcc]
  rw [hcc] at CP CB
  rw [e]
  clear e hcc h hc hp
  by_cases h0 : c = 0
  · subst h0
    rw [if_pos (by decide)]
    have CB2 : Hid (∀ W, Calls Tryz.prog 108 #[.int .i64 ((0 : Nat) : Int)] W fun e w' => e = .returned (.int .i64 0) ∧ W = w') := fun W => CB.out W
    clear CB
    go_enter Tryz.func56, Tryz.ntmps56
    go_wp2_with (first | (go_at_call 57; refine CP.out.mono ?_; rintro e w' ⟨rfl, rfl⟩) | (go_at_call 108; refine (CB2.out _).mono ?_; rintro e w' ⟨rfl, rfl⟩))
    go_ret2
    exact ⟨rfl, rfl⟩
  have CB2 : Hid (∀ W, Calls Tryz.prog 108 #[.int .i64 (c : Int)] W fun e w' => e = .returned (.int .i64 1) ∧ W = w') := fun W => by
    have := CB.out W
    rwa [if_neg h0] at this
  clear CB
  by_cases h3 : c < 3
  · rw [if_pos h3]
    have h3' : (c : Int) < 3 := by omega
    clear h3 h0
    go_enter Tryz.func56, Tryz.ntmps56
    go_wp2_with (first | (go_at_call 57; refine CP.out.mono ?_; rintro e w' ⟨rfl, rfl⟩) | (go_at_call 108; refine (CB2.out _).mono ?_; rintro e w' ⟨rfl, rfl⟩))
    go_ret2
    exact ⟨rfl, rfl⟩
  · rw [if_neg h3]
    have h3' : ¬ (c : Int) < 3 := by omega
    clear h3 h0
    go_enter Tryz.func56, Tryz.ntmps56
    go_wp2_with (first | (go_at_call 57; refine CP.out.mono ?_; rintro e w' ⟨rfl, rfl⟩) | (go_at_call 108; refine (CB2.out _).mono ?_; rintro e w' ⟨rfl, rfl⟩))
    go_ret2
    exact ⟨rfl, rfl⟩
/-- None but the first j pages are taken. -/
def upto (j : Nat) : StS := ⟨fun n => decide (n < j), fun _ => 0⟩
theorem upto_step (j : Nat) : (upto j).set j true = upto (j + 1) := by
  unfold upto StS.set
  congr 1
  funext k
  by_cases h : k = j
  · simp [h]
  · have : decide (k < j + 1) = decide (k < j) := by rw [decide_eq_decide]; omega
    simp [h, this]
set_option maxRecDepth 100000 in
theorem stateZero : ∃ i, Tryz.prog.info? 101 = some i ∧ i.zero = some (.agg (stA (upto 0))) := by
  have h : (Tryz.prog.info? 101).map (·.zero) = some (some (.agg (stA (upto 0)))) := by kernel_rfl
  obtain ⟨i, h1, h2⟩ := Option.map_eq_some_iff.1 h
  exact ⟨i, h1, h2⟩
def freshWs (pages : Nat) : List (Int × Page) := [(0, (upto 2).rootPage), (1, (upto 2).bitPage pages)]
/-- What 'Make' writes, hidden. -/
theorem freshWs_spec (pages : Nat) : ∃ (U : StS) (F : List (Int × Page)), U = upto 2 ∧ F = freshWs pages ∧ F.length = 2 ∧ (∀ j : Nat, j < 2 → F[j]? = some ((j : Int), U.page j pages)) ∧ (∀ i, U.roots i < 4294967296) := by
  refine ⟨_, _, rfl, rfl, rfl, fun j h => ?_, fun i => ?_⟩
  · rcases (show j = 0 ∨ j = 1 by omega) with rfl | rfl <;> rfl
  · show 0 < _; decide
theorem fillI_two (n : Int) (q : Page) : fillI 0 Arr.zero [(0, .int .i64 n), (1, .agg (secA q))] = some (imageA n q) := (fillI_num 0 n Arr.zero _).trans ((fillI_page n Arr.zero q []).trans (fillI_nil n q))
set_option maxRecDepth 20000 in
set_option maxHeartbeats 2000000 in
theorem make_any {w : World} {g d L M V : Nat} {S : LogS} (h : LogAt w g d L M V S) (ok : S.Ok) (hp : S.pages ≤ 3840) : Calls Tryz.prog 27 #[.pointer (some ⟨g, 0, none⟩)] w fun e w' => e = .returned (.int .i64 (PgS.make S).1) ∧ LogAt w' g d L M V (PgS.make S).2 ∧ Tch [g, d, L, M, V] w w' := by
  have CF := Lib.hid (fits_any h hp)
  by_cases hc : PgS.count S < 3
  · have e : PgS.make S = (2, S) := if_pos hc
    have e2 : PgS.fit S = (0, 2) := if_pos hc
    rw [e2] at CF
    have E := Lib.hid e
    have H := Lib.hid h
    clear e e2 h ok hc hp
    go_enter Tryz.func27, Tryz.ntmps27
    go_wp2_with (go_at_call 56; refine CF.out.mono ?_; rintro e w' ⟨rfl, rfl⟩)
    go_ret
    rw [E.out]
    exact ⟨rfl, H.out, Tch.refl _ _⟩
  have hdead : S.dead = false := by
    cases hd : S.dead with
    | false => rfl
    | true => exact absurd (show PgS.count S < 3 by unfold PgS.count; rw [if_pos hd]; decide) hc
  have hcount : PgS.count S = S.pages := by unfold PgS.count; rw [if_neg (by rw [hdead]; simp)]
  obtain ⟨U, F, hU, hF, hFl, hFg, hUr⟩ := freshWs_spec S.pages
  have e : PgS.make S = S.commit F := by rw [hF]; exact if_neg hc
  have HFL := Lib.hid hFl
  have HFG := Lib.hid hFg
  have HUR := Lib.hid hUr
  have HU := Lib.hid hU
  clear hF hFl hFg hUr hU
  have e2 : PgS.fit S = (1, 0) := if_neg hc
  rw [e2] at CF
  have E := Lib.hid e
  have H := Lib.hid h
  have OKK := Lib.hid ok
  have HPG := Lib.hid hp
  obtain ⟨w1, hw1⟩ : ∃ w1, w.alloc (.cells (stA (upto 0)) 101) = w1 := ⟨_, rfl⟩
  have b1 : w1.heap[w.heap.size]? = some (.cells (stA (upto 0)) 101) := by rw [← hw1]; exact heap_alloc_new _ _
  have t1 : Tch [] w w1 := by rw [← hw1]; exact (Tch.refl _ _).alloc _
  have HW1 := Lib.hid hw1
  have B1 := Lib.hid b1
  have T1 := Lib.hid t1
  have CP : Hid (∀ W, Tch [] w W → Calls Tryz.prog 57 #[.pointer (some ⟨g, 0, none⟩)] W fun e w' => e = .returned (.int .i64 (S.pages : Nat)) ∧ W = w') := fun W ht => (pages_any (h.touch ht (by simp) (by simp) (by simp) (by simp) (by simp))).mono fun e w' ⟨a1, a2⟩ => ⟨by rw [a1, if_neg (by rw [hdead]; simp)], a2⟩
  obtain ⟨z, hz⟩ := stateZero
  have HZ := Lib.hid hz
  clear e e2 h ok hp hc hcount hdead hw1 b1 t1 hz
  go_enter Tryz.func27, Tryz.ntmps27
  go_upto_region 5 with (first | (go_at_call 56; refine CF.out.mono ?_; rintro e w' ⟨rfl, rfl⟩) | ((with_reducible refine wc_value rfl (exec_alloc HZ.out.1 HZ.out.2 rfl) ?_); go_frame))
  rw [show (Value.agg (stA (upto 0))).cells = stA (upto 0) from rfl, HW1.out]
  go_upto_block 0 with fail
  go_cut [7, 19] from 19 to 24 (fun _ _ wx => wx.heap[w.heap.size]? = some (.cells (stA U) 101) ∧ Tch [] w wx)
  case first =>
    go_wp2_with fail
    go_loopg [7, 19] 2 (fun q _ i wr => ∃ j, OnAt 2 i q j ∧ wr.heap[w.heap.size]? = some (.cells (stA (upto j)) 101) ∧ Tch [] w wr)
    case atStart => exact ⟨0, ⟨Nat.zero_le _, rfl, rfl⟩, B1.out, T1.out⟩
    case round =>
      obtain ⟨j, ⟨hj, rfl, rfl⟩, hb, ht⟩ := hrel
      have HBJ := Lib.hid hb
      have HTJ := Lib.hid ht
      clear hb ht
      by_cases hj2 : j < 2
      · have CS : Hid (Calls Tryz.prog 51 #[.pointer (some ⟨w.heap.size, 0, none⟩), .int .i64 j, .bool true] wr fun e' w' => e' = .returned (.tuple #[]) ∧ w'.heap[w.heap.size]? = some (.cells (stA (upto (j + 1))) 101) ∧ Tch [] w w') := (set_any HBJ.out (stIn_self _) j (by omega) true).mono fun e' w' ⟨a1, a2, a3⟩ => ⟨a1, by rw [a3, Nat.zero_add, stA_setw _ _ _ (by omega), upto_step], tch_own HTJ.out a2 (by simp)⟩
        go_wp2_with (go_at_call 51; refine CS.out.mono ?_; rintro e w5 ⟨rfl, q1, q2⟩; have Q1 := Lib.hid q1; have Q2 := Lib.hid q2; clear q1 q2)
        go_roundg (2 - (j + 1))
        case measure => omega
        case rel => exact ⟨j + 1, ⟨by omega, by go_num, rfl⟩, Q1.out, Q2.out⟩
      · have hj3 : j = 2 := by omega
        subst hj3
        go_wp2_with fail
        go_meet
        exact ⟨by rw [HU.out]; exact HBJ.out, HTJ.out⟩
  case rest =>
    obtain ⟨hb, ht⟩ := hcut
    clear B1 T1
    have B1 := Lib.hid hb
    have T1 := Lib.hid ht
    clear hb ht
    go_upto_block 2 with fail
    go_cut [6, 8, 27] from 27 to 39 (fun v _ _ wx' => OwnImgs wx' wc.heap.size 84 v F ∧ Tch [] wc wx')
    case first =>
      go_upto_region 11 with fail
      have H1 := Lib.hid (H.out.touch T1.out (by simp) (by simp) (by simp) (by simp) (by simp))
      go_wp2_with fail
      go_loopg [6, 8, 27] 2 (fun q v _ i wr => ∃ j, OnAt 2 i q j ∧ OwnImgs wr wc.heap.size 84 v (F.take j) ∧ Tch [] wc wr)
      case atStart => exact ⟨0, ⟨Nat.zero_le _, rfl, rfl⟩, ownImgs_nil _ _ _, Tch.refl _ _⟩
      case round =>
        obtain ⟨j, ⟨hj, rfl, rfl⟩, ho, ht⟩ := hrel
        rename_i u6
        obtain ⟨a6, c6, hv6, _⟩ := ho.at_
        have hlen : (F.take j).length = j := by rw [List.length_take, HFL.out]; exact Nat.min_eq_left hj
        rw [hlen] at hv6
        subst hv6
        have HOJ := Lib.hid ho
        have HTJ := Lib.hid ht
        have HJ := Lib.hid hj
        clear ho ht hj
        by_cases hj2 : (j : Int) < 2
        · have HJ2 : Hid (j < 2) := by show _ < _; omega
          have HBW := Lib.hid (HTJ.out.heap B1.out (by simp))
          have CPG := Lib.hid (page_any HBW.out (stIn_self U) HUR.out j S.pages (by have := HJ2.out; omega) HPG.out)
          have hx := HFG.out j HJ2.out
          generalize U.page j S.pages = pg at *
          have FI := Lib.hid (fillI_two (j : Int) pg)
          have HX := Lib.hid hx
          have CP2 := Lib.hid (CP.out wr (T1.out.trans HTJ.out))
          clear hx hlen
          go_wp2_with (first | (go_at_call 57; refine CP2.out.mono ?_; rintro e w' ⟨rfl, rfl⟩) | (go_at_call 61; refine CPG.out.mono ?_; rintro e w5 ⟨rfl, q1⟩; have T5 := Lib.hid (HTJ.out.trans q1); have O5 := Lib.hid ((HOJ.out.kept q1 (by simp)).kept ((Tch.refl [] _).alloc (.cells (imageA (j : Int) pg) 84)) (by simp)); have B5 : Hid ((w5.alloc (.cells (imageA (j : Int) pg) 84)).heap[w5.heap.size]? = some (.cells (imageA (j : Int) pg) 84)) := heap_alloc_new _ _; clear q1) | ((with_reducible refine wc_build_img FI.out ?_ ?_); exact rfl; go_frame) | ((with_reducible refine wc_slice_img imgInfo imgsS (n := (j : Int)) (p := pg) ?_ ?_); exact rfl; go_frame) | (at_builtin; refine wc_append_img (x := .tmp 30) (y := .tmp 37) imgInfo imgsS (q := ((j : Int), pg)) O5.out (by have := T5.out.size; simp; omega) (by have := HJ2.out; simp; omega) rfl rfl rfl rfl B5.out ?_; intro v9 w9 ho9 ht9; go_frame; have O9 := Lib.hid ho9; have T9 := Lib.hid (tch_own (T5.out.alloc _) ht9 (fun k hk => (O5.out.lt k hk).1)); clear ho9 ht9))
          go_roundg (2 - (j + 1))
          case measure => (have := HJ2.out; omega)
          case rel =>
            refine ⟨j + 1, ⟨by (have := HJ2.out; omega), by go_num, rfl⟩, ?_, T9.out⟩
            have hx : F[j]? = some ((j : Int), pg) := HX.out
            rw [List.take_add_one, hx]
            exact O9.out
        · have hj3 : j = 2 := by have := HJ.out; omega
          subst hj3
          have ho := HOJ.out
          rw [List.take_of_length_le (by rw [HFL.out]; exact Nat.le_refl _)] at ho
          have HO := Lib.hid ho
          clear ho
          go_wp2_with fail
          go_meet
          exact ⟨HO.out, HTJ.out⟩
    case rest =>
      obtain ⟨ho, ht⟩ := hcut
      obtain ⟨ia, icap, hv, hI, hib⟩ := ho.at_
      rw [HFL.out] at hv
      subst hv
      have t2 := T1.out.trans ht
      have H2 := H.out.touch t2 (by simp) (by simp) (by simp) (by simp) (by simp)
      have CC : Hid (Calls Tryz.prog 41 #[.pointer (some ⟨g, 0, none⟩), .slice ia 2 icap] wc fun e w' => e = .returned (.int .i64 (S.commit F).1) ∧ LogAt w' g d L M V (S.commit F).2 ∧ Tch [g, d, L, M, V] w w') := by
        have hlt : ∀ k, k ∈ [g, d, L, M, V] → k < w.heap.size := fun k hk => by
          simp only [List.mem_cons, List.not_mem_nil, or_false] at hk
          have h1 := lt_of_heap H.out.hg
          have h2 := lt_of_heap H.out.hD.hd
          have h3 := lt_of_heap H.out.hD.hL
          have h4 := H.out.hD.hM.lt
          have h5 := H.out.hV.lt
          rcases hk with rfl | rfl | rfl | rfl | rfl <;> assumption
        have := commit_any (icap := icap) H2 OKK.out hI (by rw [HFL.out]; decide) (fun b hb hm => by
          have h1 := hib b hb
          have h2 := hlt b hm
          have h3 := T1.out.size
          omega)
        rw [HFL.out] at this
        exact this.mono fun e w' ⟨a1, a2, a3⟩ => ⟨a1, a2, (t2.mono (by simp)).trans a3⟩
      clear ho ht hI hib t2 H2
      go_wp2_with (go_at_call 41; refine CC.out.mono ?_; rintro e w5 ⟨rfl, q1, q2⟩; have Q1 := Lib.hid q1; have Q2 := Lib.hid q2; clear q1 q2)
      go_ret
      rw [E.out]
      exact ⟨rfl, Q1.out, Q2.out⟩
end Go.Proofs.YtkjgbhpnlgcinaaGreatDoor
/-
  Package page's reads.
-/
namespace Go.Proofs.YtkjgbhpnlgcinaaGreatDoor
open Go.RowKit Go.Cib
/-- The first j roots are read. -/
def rootsTo (s : StS) (x : Page) (j : Nat) : StS := ⟨s.taken, fun i => if i < j then numAt x (i + 1) else s.roots i⟩
theorem rootsTo_zero (s : StS) (x : Page) : rootsTo s x 0 = s := rfl
theorem rootsTo_step (s : StS) (x : Page) (j : Nat) : (rootsTo s x j).setRoot j (numAt x (j + 1)) = rootsTo s x (j + 1) := by
  unfold rootsTo StS.setRoot
  congr 1
  funext i
  by_cases h : i = j
  · simp [h]
  · have : (i < j + 1) = (i < j) := by simp; omega
    simp only [h, if_false, this]
theorem stA_no8 (s : StS) (n : Int) : Value.int .u8 n ∉ (stA s).toList := by
  intro h
  unfold stA at h
  simp only [Array.toList_append, List.mem_append, List.mem_map] at h
  rcases h with ⟨i, _, h⟩ | ⟨i, _, h⟩ <;> (injection h with h1 _; cases h1)
theorem pgA_no8 (g pages : Nat) (s1 s2 : StS) (Mo k : Nat) (n : Int) : (pgA g pages s1 s2 Mo)[k]? ≠ some (.int .u8 n) := by
  intro h
  have hm := Array.mem_toList_iff.2 (Array.mem_of_getElem? h)
  unfold pgA at hm
  simp only [Array.toList_append, List.mem_append] at hm
  rcases hm with (hm | hm) | (hm | hm)
  · simp [pgH] at hm
  · exact stA_no8 _ _ hm
  · exact stA_no8 _ _ hm
  · simp at hm
set_option maxRecDepth 20000 in
set_option maxHeartbeats 1000000 in
theorem reads0_any {w : World} {p g pages Mo : Nat} {s s2 : StS} (hp : w.heap[p]? = some (.cells (pgA g pages s s2 Mo) 104)) (x : Page) :
    Calls Tryz.prog 59 #[.pointer (some ⟨p, 0, none⟩), .int .i64 0, .agg (secA x)] w fun e w' => e = .returned (.tuple #[]) ∧ w'.heap[p]? = some (.cells (pgA g pages (rootsTo s x 8) s2 Mo) 104) ∧ Tch [p] w w' := by
  obtain ⟨w1, hw1⟩ : ∃ w1, w.alloc (.cells (secA x) 54) = w1 := ⟨_, rfl⟩
  have hB : w1.heap[w.heap.size]? = some (.cells (secA x) 54) := by
    rw [← hw1, heap_alloc, if_pos rfl]
  have ht : Tch [] w w1 := by rw [← hw1]; exact (Tch.refl _ _).alloc _
  have HW1 := Lib.hid hw1
  have HT := Lib.hid ht
  have HP1 := Lib.hid (ht.heap hp (by simp))
  have hl : (x.l.drop 4).length = 476 := by rw [List.length_drop, x.h]
  have CR : Hid (Calls Tryz.prog 110 #[.slice (some ⟨w.heap.size, 4, none⟩) 476 476] w1 (ReaderOut w1 (x.l.drop 4))) := by
    have h := octRead_any (w := w1) (ad := ⟨w.heap.size, 4, none⟩) (cap := 476) (bytesAt_row hB 4) (by intro e; rw [e] at hl; simp at hl) (by omega)
    rw [hl] at h
    exact h
  have HL := Lib.hid hl
  have HLT := Lib.hid (lt_of_heap hp)
  clear hw1 hB ht hl hp
  go_enter Tryz.func59, Tryz.ntmps59
  go_upto_region 1 with ((with_reducible refine wc_box_agg ?_ ?_); exact rfl; go_frame)
  rw [HW1.out]
  go_wp2_with (go_at_call 110; refine CR.out.mono ?_; rintro e w2 ⟨r, b, o, cap, rfl, hr, hrn, ht2⟩; have R2 := Lib.hid hr; have T2 := Lib.hid ht2; have RN := Lib.hid hrn; clear hr ht2 hrn CR)
  have HRP : Hid (r ≠ p ∧ b ≠ p ∧ w.heap.size ≤ r) := by
    have h1 := RN.out
    have h2 := HT.out.size
    have h3 := HLT.out
    refine ⟨by omega, ?_, by omega⟩
    intro e
    have hp2 := T2.out.heap HP1.out (by simp)
    obtain ⟨u, hu⟩ : ∃ u, (x.l.drop 4)[0]? = some u := ⟨_, List.getElem?_eq_getElem (by rw [HL.out]; decide)⟩
    obtain ⟨b', o', e1, hc⟩ := R2.out.hb 0 u hu
    cases e1
    rw [e, cell_of_row _ _ _ _ _ _ hp2] at hc
    exact pgA_no8 _ _ _ _ _ _ _ hc
  have HP2 := Lib.hid (T2.out.heap HP1.out (by simp))
  have HT2 := Lib.hid (HT.out.trans T2.out)
  go_loopg [7, 13] 8 (fun q _ i wr => ∃ j, OnAt 8 i q j ∧ wr.heap[p]? = some (.cells (pgA g pages (rootsTo s x j) s2 Mo) 104) ∧ ReaderAt wr r b o cap (x.l.drop 4) (4 * j) ∧ Tch [p, r] w2 wr)
  case atStart => exact ⟨0, ⟨Nat.zero_le _, rfl, rfl⟩, HP2.out, R2.out, Tch.refl _ _⟩
  case round =>
    obtain ⟨j, ⟨hj, rfl, rfl⟩, hb, hr, ht⟩ := hrel
    have HBJ := Lib.hid hb
    have HRJ := Lib.hid hr
    have HTJ := Lib.hid ht
    have HJ := Lib.hid hj
    clear hb hr ht hj
    by_cases hj8 : (j : Int) < 8
    · have HJ8 : Hid (j < 8) := by show _ < _; omega
      have CU := Lib.hid (fun W (hW : ReaderAt W r b o cap (x.l.drop 4) (4 * j)) => octU32_any hW (by rw [HL.out]; have := HJ8.out; omega))
      have hv : beVal (((x.l.drop 4).drop (4 * j)).take 4) = numAt x (j + 1) := by
        unfold numAt
        rw [List.drop_drop, show 4 + 4 * j = 4 * (j + 1) by omega]
      rw [hv] at CU
      have hvb : numAt x (j + 1) < 4294967296 := by
        unfold numAt
        have := beVal_lt ((x.l.drop (4 * (j + 1))).take 4)
        have h4 : ((x.l.drop (4 * (j + 1))).take 4).length ≤ 4 := List.length_take_le _ _
        have : 256 ^ ((x.l.drop (4 * (j + 1))).take 4).length ≤ 256 ^ 4 := Nat.pow_le_pow_right (by decide) h4
        omega
      have HST := Lib.hid (rootsTo_step s x j)
      generalize numAt x (j + 1) = v at *
      have HVB : Hid ((v : Int) < 4294967296) := by show _ < _; omega
      clear hv hvb
      go_upto_region 6 with fail
      refine wp_region_one 9 3 [.pointer (some ⟨p, 0, none⟩), .int .i64 j, .pointer (some ⟨r, 0, none⟩), .int .u32 v, .int .i64 v, .pointer (some ⟨p, 0, none⟩), .pointer (some ⟨p, 3, none⟩), .pointer (some ⟨p, 259, none⟩), .pointer (some ⟨p, 259 + j, none⟩)] _
        (fun b' w' => ReaderAt w' r b o cap (x.l.drop 4) (if b' = true then 4 * j + 4 else 4 * j) ∧ Tch [r] wr w') (by kernel_rfl) (by kernel_rfl) rfl (by simp only [putAll, List.take_succ_cons, List.take_zero]; go_frame; exact rfl) (by decide) ⟨HRJ.out.touch ((Tch.refl [] _).drew) (by simp) (by simp), (Tch.refl _ _).drew⟩ ?_ ?_ ?_
      · intro b'
        have e1 : wrap64 (v : Int) = (v : Int) := by have := HVB.out; unfold wrap64; omega
        simp only [List.take_succ_cons, List.take_zero]
        refine stepsBut_cons (stepOk_value rfl fun W hW => ?_) (stepsBut_cons (stepOk_value rfl fun W hW => ?_) (stepsBut_cons (stepOk_value rfl fun W hW => ?_) (stepsBut_here (stepsOk_cons (stepOk_value rfl fun W hW => ?_) (stepsOk_cons (stepOk_value rfl fun W hW => ?_) (stepsOk_cons (stepOk_value rfl fun W hW => ?_) (stepsOk_cons (stepOk_value rfl fun W hW => ?_) (stepsOk_cons (stepOk_value rfl fun W hW => ?_) (stepsOk_nil)))))))))
        all_goals (go_simp)
        all_goals (first | exact ⟨rfl, hW⟩ | skip)
        all_goals (have hvb := HVB.out; rw [IntKind.wrap_i64]; omega)
      · intro o' W ho hW
        simp only [List.getElem?_cons_zero, List.getElem?_cons_succ, Option.some.injEq] at ho
        subst ho
        refine ⟨rfl, ?_⟩
        go_simp
        refine (CU.out W hW.1).mono ?_
        rintro e' w6 ⟨rfl, q1, q2⟩
        exact ⟨_, rfl, rfl, q1, hW.2.trans q2⟩
      intro w5 hw5
      obtain ⟨hr5, t5⟩ := hw5
      simp only [if_true] at hr5
      have hb5 := t5.heap HBJ.out (by have := HRP.out; simp; omega)
      have c5 := cell_of_row w5 p (259 + j) _ _ _ hb5
      rw [show 259 + j = 3 + (256 + j) by omega, (pgA_now _ _ _ _ _).get _ (by have := HJ8.out; omega), stA_root _ HJ8.out, show 3 + (256 + j) = 259 + j by omega] at c5
      have f5 := frozen_of_row w5 p (259 + j) _ _ hb5
      have B5 := Lib.hid hb5
      have R5 := Lib.hid hr5
      have T5 := Lib.hid t5
      clear hb5 hr5 t5
      simp only [List.drop_succ_cons, List.drop_zero]
      go_wp2_with fail
      go_roundg (8 - (j + 1))
      case measure => (have := HJ8.out; omega)
      case rel =>
        refine ⟨j + 1, ⟨by (have := HJ8.out; omega), by go_num, rfl⟩, ?_, R5.out.touch ((Tch.refl [p] _).setCell (.inl (by simp)) _) (by have := HRP.out; simp; omega) (by have := HRP.out; simp; omega), (HTJ.out.trans (T5.out.mono (by simp))).setCell (.inl (by simp)) _⟩
        rw [heap_setCell_cells B5.out, show 259 + j = 3 + (256 + j) by omega, pgA_set _ _ _ _ _ (by have := HJ8.out; omega) (stA_setr _ j v HJ8.out), HST.out]
    · have hj3 : j = 8 := by have := HJ.out; omega
      subst hj3
      go_wp2_with fail
      refine bodyPost_ret (results_none rfl _ _ _) rfl ?_
      exact ⟨rfl, HBJ.out, (HT2.out.mono (by simp)).trans HTJ.out |>.drop (fun k hk => by
        rcases List.mem_cons.1 hk with e | e
        · exact .inl (by simp [e])
        · rw [List.mem_singleton.1 e]; exact .inr HRP.out.2.2)⟩
end Go.Proofs.YtkjgbhpnlgcinaaGreatDoor
/-
  Package page's reads, of the page of bits.
-/
namespace Go.Proofs.YtkjgbhpnlgcinaaGreatDoor
open Go.RowKit Go.Cib
/-- The first j bits are read. -/
def bitsTo (s : StS) (y : Page) (j : Nat) : StS := ⟨fun n => if n < j then StS.bitOf y n else s.taken n, s.roots⟩
theorem bitsTo_zero (s : StS) (y : Page) : bitsTo s y 0 = s := rfl
theorem bitsTo_step (s : StS) (y : Page) (j : Nat) : (bitsTo s y j).set j (StS.bitOf y j) = bitsTo s y (j + 1) := by
  unfold bitsTo StS.set
  congr 1
  funext i
  by_cases h : i = j
  · simp [h]
  · have : (i < j + 1) = (i < j) := by simp; omega
    simp only [h, if_false, this]
theorem bit_test (y : Page) (j : Nat) : (bits .and .u8 (((y.l.getD (j / 8) 0).toNat : Int) / 2 ^ (j % 8)) 1 == 1) = StS.bitOf y j := by
  unfold StS.bitOf
  generalize y.l.getD (j / 8) 0 = u
  have e : ((u.toNat : Int) / 2 ^ (j % 8)) = ((u.toNat / 2 ^ (j % 8) : Nat) : Int) := by simp
  rw [e, show (1 : Int) = ((1 : Nat) : Int) from rfl, u8_and_nat _ _ (Nat.lt_of_le_of_lt (Nat.div_le_self _ _) (UInt8.toNat_lt u)) (by decide), Nat.and_one_is_mod, Nat.testBit_eq_decide_div_mod_eq]
  have := Nat.mod_two_eq_zero_or_one (u.toNat / 2 ^ (j % 8))
  rcases this with h | h <;> simp [h]
set_option maxRecDepth 20000 in
set_option maxHeartbeats 1000000 in
theorem reads1_any {w : World} {p g pages Mo : Nat} {s s2 : StS} (hp : w.heap[p]? = some (.cells (pgA g pages s s2 Mo) 104)) (hpg : pages ≤ 3840) (y : Page) :
    Calls Tryz.prog 59 #[.pointer (some ⟨p, 0, none⟩), .int .i64 1, .agg (secA y)] w fun e w' => e = .returned (.tuple #[]) ∧ w'.heap[p]? = some (.cells (pgA g pages (bitsTo s y pages) s2 Mo) 104) ∧ Tch [p] w w' := by
  obtain ⟨w1, hw1⟩ : ∃ w1, w.alloc (.cells (secA y) 54) = w1 := ⟨_, rfl⟩
  have hB : w1.heap[w.heap.size]? = some (.cells (secA y) 54) := by
    rw [← hw1, heap_alloc, if_pos rfl]
  have ht : Tch [] w w1 := by rw [← hw1]; exact (Tch.refl _ _).alloc _
  have HW1 := Lib.hid hw1
  have HT := Lib.hid ht
  have HB := Lib.hid hB
  have HP1 := Lib.hid (ht.heap hp (by simp))
  have HLT := Lib.hid (lt_of_heap hp)
  have HPG := Lib.hid hpg
  have hpi : (pages : Int) ≤ 3840 := by omega
  have cP := cell_of_row w1 p 1 _ _ _ (ht.heap hp (by simp))
  rw [pgA_low _ _ _ _ _ (by decide), show (pgH g pages)[1]? = some (.int .i64 pages) from rfl] at cP
  have CP := Lib.hid cP
  clear hw1 hB ht hp hpg
  go_enter Tryz.func59, Tryz.ntmps59
  go_upto_region 1 with ((with_reducible refine wc_box_agg ?_ ?_); exact rfl; go_frame)
  rw [HW1.out]
  go_wp2_with fail
  clear cP
  go_loopg [8] pages (fun q i wr => ∃ j, OnAt pages i q j ∧ wr.heap[p]? = some (.cells (pgA g pages (bitsTo s y j) s2 Mo) 104) ∧ Tch [p] w1 wr)
  case atStart => exact ⟨0, ⟨Nat.zero_le _, rfl, rfl⟩, HP1.out, Tch.refl _ _⟩
  case round =>
    obtain ⟨j, ⟨hj, rfl, rfl⟩, hb, ht⟩ := hrel
    have HBJ := Lib.hid hb
    have HTJ := Lib.hid ht
    have HJ := Lib.hid hj
    have c1 := cell_of_row wr p 1 _ _ _ hb
    rw [pgA_low _ _ _ _ _ (by decide), show (pgH g pages)[1]? = some (.int .i64 pages) from rfl] at c1
    have HBW := Lib.hid (ht.heap HB.out (by have := HLT.out; simp; omega))
    clear hb ht hj
    by_cases hjp : (j : Int) < pages
    · have HJP : Hid (j < pages) := by show _ < _; omega
      have hlen : j / 8 < y.l.length := by have := HJP.out; have := HPG.out; rw [y.h]; omega
      have c0 : wr.cell? ⟨w.heap.size, j / 8, none⟩ = some (.int .u8 (y.l.getD (j / 8) 0).toNat) := by
        rw [cell_of_row wr _ _ _ _ _ HBW.out, show secA y = bytesA y.l from rfl, bytesA_get, List.getD_eq_getElem?_getD, List.getElem?_eq_getElem hlen]
        rfl
      have hbt := bit_test y j
      have CS : Hid (∀ W, Tch [] wr W → Calls Tryz.prog 51 #[.pointer (some ⟨p, 3, none⟩), .int .i64 j, .bool (StS.bitOf y j)] W fun e' w' => e' = .returned (.tuple #[]) ∧ w'.heap[p]? = some (.cells (pgA g pages (bitsTo s y (j + 1)) s2 Mo) 104) ∧ Tch [p] W w') := fun W hW => (set_any (hW.heap HBJ.out (by simp)) (pgA_now _ _ _ _ _) j (by have := HJP.out; have := HPG.out; omega) _).mono fun e' w' ⟨a1, a2, a3⟩ => ⟨a1, by rw [a3, pgA_set _ _ _ _ _ (by have := HJP.out; have := HPG.out; omega) (stA_setw _ j _ (by have := HJP.out; have := HPG.out; omega)), bitsTo_step], a2⟩
      generalize StS.bitOf y j = bb at *
      generalize y.l.getD (j / 8) 0 = u at *
      have e38 : j % 3840 = j := Nat.mod_eq_of_lt (by have := HJP.out; have := HPG.out; omega)
      have e39 : (j : Int) % 3840 = (j : Int) := by omega
      clear hlen
      go_upto_region 11 with fail
      (refine rest_gate 14 (fun w' => ∃ n, w' = World.drewN wr n) (fun u' w' => u' = .tuple #[] ∧ w'.heap[p]? = some (.cells (pgA g pages (bitsTo s y (j + 1)) s2 Mo) 104) ∧ Tch [p] wr w') (by kernel_rfl) (by kernel_rfl) ⟨1, rfl⟩ ?_; simp only [List.take_succ_cons, List.take_zero]; (repeat (first | fail | go_big_quiet_step (fail))); refine wpQuiet_nil ⟨_, rfl, rfl, ?_, ?_⟩)
      · rintro w' ⟨nq, rfl⟩
        go_simp
        refine (CS.out _ (tch_drewN wr nq)).mono ?_
        rintro e w6 ⟨rfl, q1, q2⟩
        exact ⟨_, rfl, rfl, q1, ((tch_drewN wr nq).mono (by simp)).trans q2⟩
      · rintro u' w' ⟨rfl, hb5, ht5⟩
        have HB5 := Lib.hid hb5
        have HT5 := Lib.hid ht5
        clear hb5 ht5
        refine rest_end (by kernel_rfl) ?_
        simp only [List.drop_succ_cons, List.drop_nil]
        go_frame
        go_wp2_with fail
        go_roundg (pages - (j + 1))
        case measure => (have := HJP.out; omega)
        case rel => exact ⟨j + 1, ⟨by (have := HJP.out; omega), by go_num, rfl⟩, HB5.out, HTJ.out.trans HT5.out⟩
    · have hj3 : j = pages := by have := HJ.out; omega
      subst hj3
      go_wp2_with fail
      go_end0
      exact ⟨rfl, HBJ.out, (HT.out.mono (by simp)).trans HTJ.out⟩
end Go.Proofs.YtkjgbhpnlgcinaaGreatDoor
/-
  Package page's Open: the pager built, the first loop.
-/
namespace Go.Proofs.YtkjgbhpnlgcinaaGreatDoor
open Go.RowKit Go.Cib
/-- A pager's cells, of a head and a last cell. -/
def pgX (h3 s1 s2 : Array Value) (m : Value) : Array Value := h3 ++ s1 ++ (s2 ++ #[m])
theorem pgX_head (h3 s1 s2 : Array Value) (m : Value) {k : Nat} (hk : k < h3.size) (v : Value) : (pgX h3 s1 s2 m).setIfInBounds k v = pgX (h3.setIfInBounds k v) s1 s2 m := by
  unfold pgX
  rw [Array.append_assoc, Array.setIfInBounds_append_left hk, Array.append_assoc]
theorem pgX_last (h3 s1 s2 : Array Value) (m v : Value) {k : Nat} (hk : k = h3.size + s1.size + s2.size) : (pgX h3 s1 s2 m).setIfInBounds k v = pgX h3 s1 s2 v := by
  unfold pgX
  rw [Array.setIfInBounds_append_right (by rw [Array.size_append]; omega), Array.setIfInBounds_append_right (by rw [Array.size_append]; omega)]
  have : k - (h3 ++ s1).size - s2.size = 0 := by rw [Array.size_append]; omega
  rw [this]
  rfl
theorem size_pgX (h3 s1 s2 : Array Value) (m : Value) : (pgX h3 s1 s2 m).size = h3.size + s1.size + s2.size + 1 := by
  unfold pgX
  rw [Array.size_append, Array.size_append, Array.size_append]
  show _ + (_ + 1) = _
  omega
def pgrPlaces : Array (Nat × Nat) := #[(0, 1), (1, 1), (2, 1), (3, 264), (267, 264), (531, 1)]
set_option maxRecDepth 100000 in
theorem pgrZero : ∃ i, Tryz.prog.info? 104 = some i ∧ i.zero = some (.agg (pgX #[.pointer none, .int .i64 0, .int .i64 0] (stA (upto 0)) (stA (upto 0)) (.map none))) := by
  have h : (Tryz.prog.info? 104).map (·.zero) = some (some (.agg (pgX #[.pointer none, .int .i64 0, .int .i64 0] (stA (upto 0)) (stA (upto 0)) (.map none)))) := by kernel_rfl
  obtain ⟨i, h1, h2⟩ := Option.map_eq_some_iff.1 h
  exact ⟨i, h1, h2⟩
theorem pgrFields : Tryz.prog.underlying 104 = some (.struct (fieldsOf (Tryz.prog.underlying 104))) := fieldsOf_spec (by kernel_rfl)
theorem pgrPl : ∀ w : World, (Array.mapM (fun (f : Field) => Prod.mk f.offset <$> sizeOf f.type) (fieldsOf (Tryz.prog.underlying 104)) : Sem (Array (Nat × Nat))).run Tryz.prog w = .ok pgrPlaces w := fun _ => by kernel_rfl
theorem fill_pgr (g pages Mo : Nat) (U : StS) : Instr.fill (pgrPlaces[·]?) (pgX #[.pointer none, .int .i64 0, .int .i64 0] (stA U) (stA U) (.map none)) [(0, .pointer (some ⟨g, 0, none⟩)), (1, .int .i64 pages), (2, .int .i64 2), (5, .map (some Mo))] = some (pgA g pages U U Mo) := by
  have hs := size_stA U
  generalize hA : stA U = A at *
  rw [fill_cons (off := 0) (size := 1) rfl rfl (by rw [size_pgX]; show _ ≤ 3 + _ + _ + 1; omega), show (Value.pointer (some ⟨g, 0, none⟩)).cells = #[.pointer (some ⟨g, 0, none⟩)] from rfl, spl_one _ _ _ (by rw [size_pgX]; show _ < 3 + _ + _ + 1; omega), pgX_head _ _ _ _ (by decide)]
  rw [fill_cons (off := 1) (size := 1) rfl rfl (by rw [size_pgX]; show _ ≤ 3 + _ + _ + 1; omega), show (Value.int .i64 pages).cells = #[.int .i64 pages] from rfl, spl_one _ _ _ (by rw [size_pgX]; show _ < 3 + _ + _ + 1; omega), pgX_head _ _ _ _ (by show _ < 3; decide)]
  rw [fill_cons (off := 2) (size := 1) rfl rfl (by rw [size_pgX]; show _ ≤ 3 + _ + _ + 1; omega), show (Value.int .i64 2).cells = #[.int .i64 2] from rfl, spl_one _ _ _ (by rw [size_pgX]; show _ < 3 + _ + _ + 1; omega), pgX_head _ _ _ _ (by show _ < 3; decide)]
  rw [fill_cons (off := 531) (size := 1) rfl rfl (by rw [size_pgX]; show _ ≤ 3 + _ + _ + 1; omega), show (Value.map (some Mo)).cells = #[.map (some Mo)] from rfl, spl_one _ _ _ (by rw [size_pgX]; show _ < 3 + _ + _ + 1; omega), pgX_last _ _ _ _ _ (by show _ = 3 + _ + _; omega)]
  unfold pgA
  rw [hA]
  rfl
theorem wc_build_pgr {ops : Array Oper} {rest : List Oper} {a : Act} {w : World} {Q : Exit → Act → World → Prop} {dst : Option Tmp} {ty : TypeId} {pos : String} {af : Array Edge} {ps : Array (Nat × Operand)} {g pages Mo : Nat} {U : StS} (hU : U = upto 0)
    (hl : ps.toList.map (fun q => (q.1, a.eval q.2)) = [(0, .pointer (some ⟨g, 0, none⟩)), (1, .int .i64 pages), (2, .int .i64 2), (5, .map (some Mo))]) (h : wpList Tryz.prog ops Q rest (a.put dst (.agg (pgA g pages U U Mo))) w) : wpList Tryz.prog ops Q (⟨dst, .build 104 ps, ty, pos, af, none⟩ :: rest) a w := by
  subst hU
  exact wc_value rfl (exec_build_fill pgrZero pgrFields pgrPl hl (fill_pgr g pages Mo (upto 0))) h
end Go.Proofs.YtkjgbhpnlgcinaaGreatDoor
/-
  Package page's Open: its first half: the two pages are read.
-/
namespace Go.Proofs.YtkjgbhpnlgcinaaGreatDoor
open Go.RowKit Go.Cib
theorem pagesS : Tryz.prog.underlying 40 = some (.slice 54) := by kernel_rfl
theorem wcg_neq_i64 {P : Program} {ops : Array Oper} {rest : List Oper} {a : Act} {w : World} {Q : Exit → Act → World → Prop} {dst : Option Tmp} {ty : TypeId} {pos : String} {af : Array Edge} {gd : Option (Nat × Bool)} {T yt : TypeId} {x y : Operand} {X Y : Int} {b : Bool} (hx : a.eval x = .int .i64 X) (hy : a.eval y = .int .i64 Y) (hb : (X != Y) = b) (hw : Region.wanted ⟨dst, .binOp .neq T x y yt, ty, pos, af, gd⟩ (yielded ops a.tmps) = true)
    (h : wpList P ops Q rest (a.put dst (.bool b)) w) : wpList P ops Q (⟨dst, .binOp .neq T x y yt, ty, pos, af, gd⟩ :: rest) a w := by
  refine wcg_value hw ?_ h
  unfold execOp
  simp [hx, hy, binOp, eqGuard, Op.intCmp, hb]
/-- What Open answers. -/
def OpenPg (w : World) (g d L M V : Nat) (R : Int × Option PgS × LogS) (e : Ending) (w' : World) : Prop :=
  Tch [g] w w' ∧ ((R.2.1 = none ∧ e = .returned (.tuple #[.pointer none, .int .i64 R.1]) ∧ LogAt w' g d L M V R.2.2) ∨
    ∃ P p Mo, R.2.1 = some P ∧ e = .returned (.tuple #[.pointer (some ⟨p, 0, none⟩), .int .i64 0]) ∧ R.1 = 0 ∧ PgAt w' p g d L M V Mo P ∧ P.Ok ∧ w.heap.size ≤ p ∧ w.heap.size ≤ Mo)
/-- While it is read: the pager, the log, the pages so far. -/
structure OpenR (w : World) (g d L M V p Mo pages : Nat) (S : LogS) (s U : StS) (ls : List Page) (v : Value) (wr : World) : Prop where
  hp : wr.heap[p]? = some (.cells (pgA g pages s U Mo) 104)
  log : LogAt wr g d L M V S
  hM : MapAt kInt wr Mo (overV fun _ => none)
  own : OwnArrs wr w.heap.size 54 v ls
  tch : Tch [g] w wr
  hlt : w.heap.size ≤ p ∧ w.heap.size ≤ Mo ∧ p ≠ Mo
theorem ownArrs_type {w : World} {B : Nat} {v : Value} {ls : List Page} {e : TypeId} (h : OwnArrs w B e v ls) : ∀ k ∈ v.ownBlock.toList, ∃ c, w.heap[k]? = some (.cells c e) := by
  intro k hk
  obtain ⟨h1, h2⟩ := h
  rcases h2 with ⟨rfl, _⟩ | ⟨g, cap, cur, rfl, h3, h4, _⟩
  · simp [Value.ownBlock] at hk
  · have : k = g := by simpa [Value.ownBlock] using hk
    subst this
    exact ⟨cur, h4⟩
theorem OpenR.np {w wr : World} {g d L M V p Mo pages : Nat} {S : LogS} {s U : StS} {ls : List Page} {v : Value} (h : OpenR w g d L M V p Mo pages S s U ls v wr) : ∀ k ∈ v.ownBlock.toList, k ≠ p ∧ k ≠ Mo := by
  intro k hk
  obtain ⟨c, hc⟩ := ownArrs_type h.own k hk
  obtain ⟨es, clk, hM, _⟩ := h.hM
  refine ⟨?_, ?_⟩
  · rintro rfl
    exact absurd (type_ne h.hp hc) (by decide)
  · rintro rfl
    exact map_ne hM hc
theorem blocks_lt {w : World} {g d L M V : Nat} {S : LogS} (h : LogAt w g d L M V S) : ∀ k ∈ [g, d, L, M, V], k < w.heap.size := fun k hk => by
  simp only [List.mem_cons, List.not_mem_nil, or_false] at hk
  have h1 := lt_of_heap h.hg
  have h2 := lt_of_heap h.hD.hd
  have h3 := lt_of_heap h.hD.hL
  have h4 := h.hD.hM.lt
  have h5 := h.hV.lt
  rcases hk with rfl | rfl | rfl | rfl | rfl <;> assumption
/-- The world was turned in the log alone, or in new blocks. -/
theorem OpenR.logged {w wr w' : World} {g d L M V p Mo pages : Nat} {S S' : LogS} {s U : StS} {ls : List Page} {v : Value} (h : OpenR w g d L M V p Mo pages S s U ls v wr) (hw : ∀ k ∈ [g, d, L, M, V], k < w.heap.size) (hl : LogAt w' g d L M V S') (ht : Tch [g] wr w') : OpenR w g d L M V p Mo pages S' s U ls v w' := by
  have hg := hw g (by simp)
  obtain ⟨h1, h2, h3⟩ := h.hlt
  refine ⟨ht.heap h.hp (by simp; omega), hl, h.hM.touch ht (by simp; omega), h.own.kept ht fun k hk hm => ?_, h.tch.trans ht, h.hlt⟩
  have := (h.own.lt k (by rw [hk]; simp)).1
  rw [List.mem_singleton.1 hm] at this
  omega
theorem OpenR.old {w wr w' : World} {g d L M V p Mo pages : Nat} {S : LogS} {s U : StS} {ls : List Page} {v : Value} (h : OpenR w g d L M V p Mo pages S s U ls v wr) (ht : Tch [] wr w') : OpenR w g d L M V p Mo pages S s U ls v w' :=
  ⟨ht.heap h.hp (by simp), h.log.touch ht (by simp) (by simp) (by simp) (by simp) (by simp), h.hM.touch ht (by simp), h.own.kept ht (by simp), h.tch.trans (ht.mono (by simp)), h.hlt⟩
/-- The state was turned. -/
theorem OpenR.state {w wr w' : World} {g d L M V p Mo pages : Nat} {S : LogS} {s s' U : StS} {ls : List Page} {v : Value} (h : OpenR w g d L M V p Mo pages S s U ls v wr) (hw : ∀ k ∈ [g, d, L, M, V], k < w.heap.size) (hp : w'.heap[p]? = some (.cells (pgA g pages s' U Mo) 104)) (ht : Tch [p] wr w') : OpenR w g d L M V p Mo pages S s' U ls v w' := by
  obtain ⟨h1, h2, h3⟩ := h.hlt
  have n : ∀ k ∈ [g, d, L, M, V], k ∉ [p] := fun k hk hm => by
    have := hw k hk
    rw [List.mem_singleton.1 hm] at this
    omega
  refine ⟨hp, h.log.touch ht (n _ (by simp)) (n _ (by simp)) (n _ (by simp)) (n _ (by simp)) (n _ (by simp)), h.hM.touch ht (by simp; omega), h.own.kept ht fun k hk hm => (h.np k (by rw [hk]; simp)).1 (List.mem_singleton.1 hm), ((h.tch.mono (S' := [g, p]) (by simp)).trans (ht.mono (by simp))).drop fun k hk => ?_, h.hlt⟩
  rcases List.mem_cons.1 hk with e | e
  · exact .inl (by simp [e])
  · rw [List.mem_singleton.1 e]; exact .inr h1
/-- A page was appended. -/
theorem OpenR.put {w wr w' : World} {g d L M V p Mo pages : Nat} {S : LogS} {s U : StS} {ls ls' : List Page} {v v' : Value} (h : OpenR w g d L M V p Mo pages S s U ls v wr) (hw : ∀ k ∈ [g, d, L, M, V], k < w.heap.size) (ho : OwnArrs w' w.heap.size 54 v' ls') (ht : Tch v.ownBlock.toList wr w') : OpenR w g d L M V p Mo pages S s U ls' v' w' := by
  obtain ⟨h1, h2, h3⟩ := h.hlt
  have n : ∀ k ∈ [g, d, L, M, V], k ∉ v.ownBlock.toList := fun k hk hm => by
    have := hw k hk
    have := (h.own.lt k hm).1
    omega
  exact ⟨ht.heap h.hp (fun hm => (h.np _ hm).1 rfl), h.log.touch ht (n _ (by simp)) (n _ (by simp)) (n _ (by simp)) (n _ (by simp)) (n _ (by simp)), h.hM.touch ht (fun hm => (h.np _ hm).2 rfl), ho, (h.tch.mono (S' := g :: v.ownBlock.toList) (by simp)).trans (ht.mono fun k hk => List.mem_cons_of_mem _ hk) |>.drop fun k hk => by
    rcases List.mem_cons.1 hk with e | e
    · exact .inl (by simp [e])
    · exact .inr (h.own.lt k e).1, h.hlt⟩
theorem OpenR.below {w wr : World} {g d L M V p Mo pages : Nat} {S : LogS} {s U : StS} {ls : List Page} {v : Value} (h : OpenR w g d L M V p Mo pages S s U ls v wr) {n : Nat} (hn : wr.heap.size ≤ n) : ∀ k ∈ v.ownBlock.toList, k ≠ n := fun k hk => by
  have := (h.own.lt k hk).2
  omega
theorem read_ok {S : LogS} (ok : S.Ok) (n : Int) : (S.read n).2.Ok ∧ (S.read n).2.pages = S.pages := by
  unfold LogS.read
  split
  · exact ⟨ok, rfl⟩
  split
  · exact ⟨ok, rfl⟩
  split
  · exact ⟨ok, rfl⟩
  split
  · exact ⟨ok.dead _, rfl⟩
  · exact ⟨ok, rfl⟩
/-- The two pages. -/
def twoY (x0 x1 : Page) (k : Nat) : Page := if k = 0 then x0 else x1
def rootOk (s : StS) (pages k : Nat) : Prop := s.roots k = 0 ∨ (2 ≤ s.roots k ∧ s.roots k < pages ∧ s.taken (s.roots k) = true)
theorem fine_iff (s : StS) (pages : Nat) (x0 x1 : Page) : PgS.fineS s pages x0 x1 = true ↔ (∀ k, k < 2 → s.taken k = true ∧ s.page k pages = twoY x0 x1 k) ∧ ∀ k, k < 8 → rootOk s pages k := by
  unfold PgS.fineS
  simp only [Bool.and_eq_true, decide_eq_true_eq, List.all_eq_true, List.mem_range, Bool.or_eq_true]
  constructor
  · rintro ⟨⟨⟨⟨a, b⟩, c⟩, d⟩, e⟩
    refine ⟨fun k hk => ?_, fun k hk => ?_⟩
    · rcases (show k = 0 ∨ k = 1 by omega) with rfl | rfl
      · exact ⟨a, b⟩
      · exact ⟨c, d⟩
    · rcases e k hk with h | ⟨⟨h1, h2⟩, h3⟩
      · exact .inl h
      · exact .inr ⟨h1, h2, h3⟩
  · rintro ⟨h, e⟩
    refine ⟨⟨⟨⟨(h 0 (by decide)).1, (h 0 (by decide)).2⟩, (h 1 (by decide)).1⟩, (h 1 (by decide)).2⟩, fun k hk => ?_⟩
    rcases e k hk with h | ⟨h1, h2, h3⟩
    · exact .inl h
    · exact .inr ⟨⟨h1, h2⟩, h3⟩
theorem said_stA (U : StS) (hU : U = upto 0) (x0 x1 : Page) (pages : Nat) : stA (bitsTo (rootsTo U x0 8) x1 pages) = stA (PgS.said pages x0 x1) := by
  subst hU
  have ht : (bitsTo (rootsTo (upto 0) x0 8) x1 pages).taken = (PgS.said pages x0 x1).taken := by
    funext n
    unfold bitsTo PgS.said rootsTo upto
    simp only
    by_cases h : n < pages
    · rw [if_pos h, decide_eq_true h, Bool.true_and]
    · rw [if_neg h, decide_eq_false h, Bool.false_and]; simp
  apply Array.ext_getElem?
  intro j
  by_cases h : j < 256
  · rw [stA_word _ h, stA_word _ h]
    unfold StS.word
    rw [ht]
  · by_cases h2 : j < 264
    · obtain ⟨i, rfl⟩ : ∃ i, j = 256 + i := ⟨j - 256, by omega⟩
      rw [stA_root _ (by omega), stA_root _ (by omega)]
      unfold bitsTo PgS.said rootsTo
      simp only
      rw [if_pos (show i < 8 by omega)]
    · rw [Array.getElem?_eq_none (by rw [size_stA]; omega), Array.getElem?_eq_none (by rw [size_stA]; omega)]
theorem OpenR.sameA {w wr : World} {g d L M V p Mo pages : Nat} {S : LogS} {s s' U : StS} {ls : List Page} {v : Value} (h : OpenR w g d L M V p Mo pages S s U ls v wr) (e : stA s = stA s') : OpenR w g d L M V p Mo pages S s' U ls v wr :=
  ⟨by have := h.hp; unfold pgA at this ⊢; rwa [e] at this, h.log, h.hM, h.own, h.tch, h.hlt⟩
theorem numAt_lt (x : Page) (i : Nat) : numAt x i < 4294967296 := by
  unfold numAt
  have := beVal_lt ((x.l.drop (4 * i)).take 4)
  have h4 : ((x.l.drop (4 * i)).take 4).length ≤ 4 := List.length_take_le _ _
  have : 256 ^ ((x.l.drop (4 * i)).take 4).length ≤ 256 ^ 4 := Nat.pow_le_pow_right (by decide) h4
  omega
theorem said_ok {S : LogS} {pages : Nat} {x0 x1 : Page} {U : StS} (hU : U = upto 0) (ok : S.Ok) (hp : S.pages = pages) (p3 : 3 ≤ pages) (p4 : pages ≤ 3840) : (⟨S, pages, PgS.said pages x0 x1, U, fun _ => none⟩ : PgS).Ok ∧ (⟨S, pages, PgS.said pages x0 x1, PgS.said pages x0 x1, fun _ => none⟩ : PgS).Ok := by
  subst hU
  have hn : ∀ n, pages ≤ n → (PgS.said pages x0 x1).taken n = false := fun n hn => by
    unfold PgS.said
    simp only
    rw [decide_eq_false (by omega), Bool.false_and]
  exact ⟨⟨ok, hp, p3, p4, fun i x h => (by cases h), hn, fun n _ => by simp [upto], fun i => numAt_lt _ _, fun i => by show 0 < _; decide⟩, ⟨ok, hp, p3, p4, fun i x h => (by cases h), hn, hn, fun i => numAt_lt _ _, fun i => numAt_lt _ _⟩⟩
theorem OpenR.pg {w wr : World} {g d L M V p Mo pages : Nat} {S : LogS} {s U : StS} {ls : List Page} {v : Value} (h : OpenR w g d L M V p Mo pages S s U ls v wr) (hw : ∀ k ∈ [g, d, L, M, V], k < w.heap.size) (tab : Tab w) (nz : 0 ∉ [g, d, L, M, V]) : PgAt wr p g d L M V Mo ⟨S, pages, s, U, fun _ => none⟩ := by
  obtain ⟨h1, h2, h3⟩ := h.hlt
  have z := block_lt_of_cell (tab 0 0 rfl)
  have m1 := hw M (by simp)
  have m2 := hw V (by simp)
  simp only [List.mem_cons, List.not_mem_nil, or_false, not_or] at nz
  refine ⟨h.hp, h.log, h.hM, tab.touch h.tch (by simp; exact nz.1), by omega, by omega, ?_⟩
  simp only [List.mem_cons, List.not_mem_nil, or_false, not_or]
  simp only at z
  exact ⟨by omega, nz.1, nz.2.1, nz.2.2.1, nz.2.2.2.1, nz.2.2.2.2, by omega⟩
set_option maxRecDepth 100000 in
theorem cf_has (args : Array Value) (w : World) : (callFunc 60 args).run Tryz.prog w = .ok (.enter 60 args) w := by kernel_rfl
set_option maxRecDepth 100000 in
theorem cf_page (args : Array Value) (w : World) : (callFunc 61 args).run Tryz.prog w = .ok (.enter 61 args) w := by kernel_rfl
set_option maxRecDepth 20000 in
set_option maxHeartbeats 2000000 in
theorem popen_any {w : World} {g d L M V : Nat} {S : LogS} (h : LogAt w g d L M V S) (ok : S.Ok) (hp : S.pages ≤ 3840) (tab : Tab w) (nz : 0 ∉ [g, d, L, M, V]) :
    Calls Tryz.prog 22 #[.pointer (some ⟨g, 0, none⟩)] w fun e w' => OpenPg w g d L M V (PgS.opens S) e w' := by
  have CF := Lib.hid (fits_any h hp)
  by_cases hc : PgS.count S < 3
  · have e : PgS.opens S = (2, none, S) := if_pos hc
    have e2 : PgS.fit S = (0, 2) := if_pos hc
    rw [e2] at CF
    have E := Lib.hid e
    have H := Lib.hid h
    clear e e2 h ok hc hp tab nz
    go_enter Tryz.func22, Tryz.ntmps22
    go_wp2_with (go_at_call 56; refine CF.out.mono ?_; rintro e w' ⟨rfl, rfl⟩)
    go_ret2
    rw [E.out]
    exact ⟨Tch.refl _ _, .inl ⟨rfl, rfl, H.out⟩⟩
  have hdead : S.dead = false := by
    cases hd : S.dead with
    | false => rfl
    | true => exact absurd (show PgS.count S < 3 by unfold PgS.count; rw [if_pos hd]; decide) hc
  have hcount : PgS.count S = S.pages := by unfold PgS.count; rw [if_neg (by rw [hdead]; simp)]
  have e2 : PgS.fit S = (1, 0) := if_neg hc
  rw [e2] at CF
  have HW := Lib.hid (blocks_lt h)
  have H := Lib.hid h
  have OKK := Lib.hid ok
  have HPG := Lib.hid hp
  have TAB := Lib.hid tab
  have NZ := Lib.hid nz
  have HCC := Lib.hid (And.intro hc hcount)
  have CP : Hid (Calls Tryz.prog 57 #[.pointer (some ⟨g, 0, none⟩)] w fun e w' => e = .returned (.int .i64 (S.pages : Nat)) ∧ w = w') := (pages_any h).mono fun e w' ⟨a1, a2⟩ => ⟨by rw [a1, if_neg (by rw [hdead]; simp)], a2⟩
  obtain ⟨U, hU⟩ : ∃ U, U = upto 0 := ⟨_, rfl⟩
  have HU := Lib.hid hU
  clear e2 h ok hp hc hcount hdead tab nz hU
  go_enter Tryz.func22, Tryz.ntmps22
  go_upto_region 5 with (first | (go_at_call 56; refine CF.out.mono ?_; rintro e w' ⟨rfl, rfl⟩) | (go_at_call 57; refine CP.out.mono ?_; rintro e w' ⟨rfl, rfl⟩) | ((with_reducible apply wc_makeMap kInt); intro hm; have HMP := Lib.hid hm; clear hm; go_frame) | ((with_reducible refine wc_build_pgr (g := g) (pages := S.pages) (Mo := w.heap.size) HU.out ?_ ?_); exact rfl; go_frame) | ((with_reducible refine wc_box_agg ?_ ?_); exact rfl; go_frame))
  have HR0 : Hid (OpenR w g d L M V (w.heap.size + 1) w.heap.size S.pages S U U [] (.slice none 0 0) ((w.alloc (.map #[] 0)).alloc (.cells (pgA g S.pages U U w.heap.size) 104))) := by
    have t1 : Tch [] (w.alloc (.map #[] 0)) ((w.alloc (.map #[] 0)).alloc (.cells (pgA g S.pages U U w.heap.size) 104)) := (Tch.refl _ _).alloc _
    have t2 : Tch [] w (w.alloc (.map #[] 0)) := (Tch.refl _ _).alloc _
    refine ⟨?_, H.out.touch (t2.trans t1) (by simp) (by simp) (by simp) (by simp) (by simp), HMP.out.touch t1 (by simp), ownArrs_nil _ _ _, (t2.trans t1).mono (by simp), by omega, Nat.le_refl _, by omega⟩
    have := heap_alloc_new (w.alloc (.map #[] 0)) (.cells (pgA g S.pages U U w.heap.size) 104)
    simpa using this
  obtain ⟨x0, e0, S1, hr0⟩ : ∃ x e S', S.read 0 = ((x, e), S') := ⟨_, _, _, rfl⟩
  obtain ⟨x1, e1, S2, hr1⟩ : ∃ x e S', S1.read 1 = ((x, e), S') := ⟨_, _, _, rfl⟩
  have ok1 : S1.Ok ∧ S1.pages = S.pages := by have := read_ok OKK.out 0; rw [hr0] at this; exact this
  have ok2 : S2.Ok ∧ S2.pages = S1.pages := by have := read_ok ok1.1 1; rw [hr1] at this; exact this
  have E : Hid (PgS.opens S = if e0 ≠ 0 then (e0, none, S1) else if e1 ≠ 0 then (e1, none, S2) else if PgS.fineS (PgS.said S.pages x0 x1) S.pages x0 x1 = false then (90, none, S2) else (0, some ⟨S2, S.pages, PgS.said S.pages x0 x1, PgS.said S.pages x0 x1, fun _ => none⟩, S2)) := by
    show _ = _
    unfold PgS.opens
    rw [if_neg HCC.out.1, hr0]
    simp only []
    rw [hr1]
  have RD0 : Hid (∀ s ls v wr, OpenR w g d L M V (w.heap.size + 1) w.heap.size S.pages S s U ls v wr → Calls Tryz.prog 58 #[.pointer (some ⟨g, 0, none⟩), .int .i64 0] wr fun e w' => e = .returned (.tuple #[.agg (secA x0), .int .i64 e0]) ∧ OpenR w g d L M V (w.heap.size + 1) w.heap.size S.pages S1 s U ls v w' ∧ wr.heap.size ≤ w'.heap.size) := fun s ls v wr hR => by
    have := logRead_any hR.log OKK.out 0
    rw [hr0] at this
    exact this.mono fun e w' ⟨a1, a2, a3⟩ => ⟨a1, hR.logged HW.out a2 a3, a3.size⟩
  have RD1 : Hid (∀ s ls v wr, OpenR w g d L M V (w.heap.size + 1) w.heap.size S.pages S1 s U ls v wr → Calls Tryz.prog 58 #[.pointer (some ⟨g, 0, none⟩), .int .i64 1] wr fun e w' => e = .returned (.tuple #[.agg (secA x1), .int .i64 e1]) ∧ OpenR w g d L M V (w.heap.size + 1) w.heap.size S.pages S2 s U ls v w' ∧ wr.heap.size ≤ w'.heap.size) := fun s ls v wr hR => by
    have := logRead_any hR.log ok1.1 1
    rw [hr1] at this
    exact this.mono fun e w' ⟨a1, a2, a3⟩ => ⟨a1, hR.logged HW.out a2 a3, a3.size⟩
  have RS0 : Hid (∀ ls v wr, OpenR w g d L M V (w.heap.size + 1) w.heap.size S.pages S1 U U ls v wr → Calls Tryz.prog 59 #[.pointer (some ⟨w.heap.size + 1, 0, none⟩), .int .i64 0, .agg (secA x0)] wr fun e w' => e = .returned (.tuple #[]) ∧ OpenR w g d L M V (w.heap.size + 1) w.heap.size S.pages S1 (rootsTo U x0 8) U ls v w') := fun ls v wr hR => (reads0_any hR.hp x0).mono fun e w' ⟨a1, a2, a3⟩ => ⟨a1, hR.state HW.out a2 a3⟩
  have RS1 : Hid (∀ ls v wr, OpenR w g d L M V (w.heap.size + 1) w.heap.size S.pages S2 (rootsTo U x0 8) U ls v wr → Calls Tryz.prog 59 #[.pointer (some ⟨w.heap.size + 1, 0, none⟩), .int .i64 1, .agg (secA x1)] wr fun e w' => e = .returned (.tuple #[]) ∧ OpenR w g d L M V (w.heap.size + 1) w.heap.size S.pages S2 (bitsTo (rootsTo U x0 8) x1 S.pages) U ls v w') := fun ls v wr hR => (reads1_any hR.hp HPG.out x1).mono fun e w' ⟨a1, a2, a3⟩ => ⟨a1, hR.state HW.out a2 a3⟩
  have OK2 := Lib.hid (And.intro ok2.1 (ok2.2.trans ok1.2))
  clear hr0 hr1 ok1 ok2 CP CF
  go_upto_block 0 with fail
  generalize ((w.alloc (.map #[] 0)).alloc (.cells (pgA g S.pages U U w.heap.size) 104)) = w2 at *
  go_cut [7, 8, 9, 10, 32] from 32 to 52 (fun v _ _ _ _ wx => e0 = 0 ∧ e1 = 0 ∧ OpenR w g d L M V (w.heap.size + 1) w.heap.size S.pages S2 (bitsTo (rootsTo U x0 8) x1 S.pages) U [x0, x1] v wx)
  case first =>
    go_wp2_with fail
    go_loopg [7, 8, 9, 10, 32] 2 (fun q v _ _ _ i wr => ∃ j, OnAt 2 i q j ∧ ((j = 0 ∧ OpenR w g d L M V (w.heap.size + 1) w.heap.size S.pages S U U [] v wr) ∨ (j = 1 ∧ e0 = 0 ∧ OpenR w g d L M V (w.heap.size + 1) w.heap.size S.pages S1 (rootsTo U x0 8) U [x0] v wr) ∨ (j = 2 ∧ e0 = 0 ∧ e1 = 0 ∧ OpenR w g d L M V (w.heap.size + 1) w.heap.size S.pages S2 (bitsTo (rootsTo U x0 8) x1 S.pages) U [x0, x1] v wr)))
    case atStart => exact ⟨0, ⟨Nat.zero_le _, rfl, rfl⟩, .inl ⟨rfl, HR0.out⟩⟩
    case round =>
      obtain ⟨j, ⟨hj, rfl, rfl⟩, hrr⟩ := hrel
      clear hj HR0
      rcases hrr with ⟨rfl, hR⟩ | ⟨rfl, h0, hR⟩ | ⟨rfl, h0, h1, hR⟩ <;> have HRJ := Lib.hid hR <;> clear hR
      · by_cases he : e0 = 0
        · have RDE := RD0
          rw [he] at RDE
          go_upto_region 10 with (first | (go_at_call 58; refine (RDE.out _ _ _ _ HRJ.out).mono ?_; rintro e w5 ⟨rfl, q1, q2⟩; have Q1 := Lib.hid q1; have Q2 := Lib.hid q2; clear q1 q2) | ((with_reducible refine wc_alloc_arr pageT ?_); go_frame; (try simp only [World.size_alloc])) | ((with_reducible apply wc_store_new pageT); exact rfl; exact rfl; go_frame))
          have t6 : Tch [] w5 (w5.alloc (.cells (secA x0) 54)) := (Tch.refl _ _).alloc _
          have B6 : Hid ((w5.alloc (.cells (secA x0) 54)).heap[w5.heap.size]? = some (.cells (secA x0) 54)) := heap_alloc_new _ _
          have Q6 := Lib.hid (Q1.out.old t6)
          have NB := Lib.hid (HRJ.out.below Q2.out)
          clear t6
          generalize hb9 : w5.heap.size = bx at *
          generalize (w5.alloc (.cells (secA x0) 54)) = w6 at *
          clear hb9
          have t7 : Tch [] w6 (w6.alloc (.cells (secA x0) 54)) := (Tch.refl _ _).alloc _
          have G7 : Hid ((w6.alloc (.cells (secA x0) 54)).heap[w6.heap.size]? = some (.cells (secA x0) 54)) := heap_alloc_new _ _
          have Q7 := Lib.hid (Q6.out.old t7)
          have B7 := Lib.hid (t7.heap B6.out (by simp))
          clear t7
          go_wp2_with (first | ((with_reducible apply wc_load_var pageT B6.out); exact rfl; go_frame) | ((with_reducible refine wc_slice_one pageT (by decide) (by decide) pagesS (s := x0) ?_ ?_); exact rfl; go_frame) | (at_builtin; refine wc_append_arr (x := .tmp 44) (y := .tmp 46) pageT (by decide) pagesS Q7.out.own (by have := Q7.out.tch.size; omega) (by simp) rfl rfl rfl rfl G7.out ?_; intro v8 w8 ho8 ht8; go_frame; have Q8 := Lib.hid (Q7.out.put HW.out ho8 ht8); have B8 := Lib.hid (ht8.heap B7.out (fun hm => NB.out _ hm rfl)); clear ho8 ht8) | ((with_reducible apply wc_load_var pageT B8.out); exact rfl; go_frame) | (go_at_call 59; refine (RS0.out _ _ _ Q8.out).mono ?_; rintro e w9 ⟨rfl, q1⟩; have Q9 := Lib.hid q1; clear q1))
          go_roundg (2 - (0 + 1))
          case measure => decide
          case rel => exact ⟨1, ⟨by decide, by rfl, rfl⟩, .inr (.inl ⟨rfl, he, Q9.out⟩)⟩
        · have hee : ((e0 : Int) == 0) = false := by simpa using he
          go_wp2_with (first | (go_at_call 58; refine (RD0.out _ _ _ _ HRJ.out).mono ?_; rintro e w5 ⟨rfl, q1, q2⟩; have Q1 := Lib.hid q1; have Q2 := Lib.hid q2; clear q1 q2) | ((with_reducible refine wc_alloc_arr pageT ?_); go_frame; (try simp only [World.size_alloc])) | ((with_reducible apply wc_store_new pageT); exact rfl; exact rfl; go_frame))
          go_ret2
          rw [E.out, if_pos he]
          have Q6 := Q1.out.old ((Tch.refl [] w5).alloc (.cells (secA x0) 54))
          exact ⟨Q6.tch, .inl ⟨rfl, rfl, Q6.log⟩⟩
      · by_cases he : e1 = 0
        · have RDE := RD1
          rw [he] at RDE
          go_upto_region 10 with (first | (go_at_call 58; refine (RDE.out _ _ _ _ HRJ.out).mono ?_; rintro e w5 ⟨rfl, q1, q2⟩; have Q1 := Lib.hid q1; have Q2 := Lib.hid q2; clear q1 q2) | ((with_reducible refine wc_alloc_arr pageT ?_); go_frame; (try simp only [World.size_alloc])) | ((with_reducible apply wc_store_new pageT); exact rfl; exact rfl; go_frame))
          have t6 : Tch [] w5 (w5.alloc (.cells (secA x1) 54)) := (Tch.refl _ _).alloc _
          have B6 : Hid ((w5.alloc (.cells (secA x1) 54)).heap[w5.heap.size]? = some (.cells (secA x1) 54)) := heap_alloc_new _ _
          have Q6 := Lib.hid (Q1.out.old t6)
          have NB := Lib.hid (HRJ.out.below Q2.out)
          clear t6
          generalize hb9 : w5.heap.size = bx at *
          generalize (w5.alloc (.cells (secA x1) 54)) = w6 at *
          clear hb9
          have t7 : Tch [] w6 (w6.alloc (.cells (secA x1) 54)) := (Tch.refl _ _).alloc _
          have G7 : Hid ((w6.alloc (.cells (secA x1) 54)).heap[w6.heap.size]? = some (.cells (secA x1) 54)) := heap_alloc_new _ _
          have Q7 := Lib.hid (Q6.out.old t7)
          have B7 := Lib.hid (t7.heap B6.out (by simp))
          clear t7
          go_wp2_with (first | ((with_reducible apply wc_load_var pageT B6.out); exact rfl; go_frame) | ((with_reducible refine wc_slice_one pageT (by decide) (by decide) pagesS (s := x1) ?_ ?_); exact rfl; go_frame) | (at_builtin; refine wc_append_arr (x := .tmp 44) (y := .tmp 46) pageT (by decide) pagesS Q7.out.own (by have := Q7.out.tch.size; omega) (by simp) rfl rfl rfl rfl G7.out ?_; intro v8 w8 ho8 ht8; go_frame; have Q8 := Lib.hid (Q7.out.put HW.out ho8 ht8); have B8 := Lib.hid (ht8.heap B7.out (fun hm => NB.out _ hm rfl)); clear ho8 ht8) | ((with_reducible apply wc_load_var pageT B8.out); exact rfl; go_frame) | (go_at_call 59; refine (RS1.out _ _ _ Q8.out).mono ?_; rintro e w9 ⟨rfl, q1⟩; have Q9 := Lib.hid q1; clear q1))
          go_roundg (2 - (1 + 1))
          case measure => decide
          case rel => exact ⟨2, ⟨by decide, by rfl, rfl⟩, .inr (.inr ⟨rfl, h0, he, Q9.out⟩)⟩
        · have hee : ((e1 : Int) == 0) = false := by simpa using he
          go_wp2_with (first | (go_at_call 58; refine (RD1.out _ _ _ _ HRJ.out).mono ?_; rintro e w5 ⟨rfl, q1, q2⟩; have Q1 := Lib.hid q1; have Q2 := Lib.hid q2; clear q1 q2) | ((with_reducible refine wc_alloc_arr pageT ?_); go_frame; (try simp only [World.size_alloc])) | ((with_reducible apply wc_store_new pageT); exact rfl; exact rfl; go_frame))
          go_ret2
          rw [E.out, if_neg (by simp [h0]), if_pos he]
          have Q6 := Q1.out.old ((Tch.refl [] w5).alloc (.cells (secA x1) 54))
          exact ⟨Q6.tch, .inl ⟨rfl, rfl, Q6.log⟩⟩
      · go_wp2_with fail
        go_meet
        exact ⟨h0, h1, HRJ.out⟩
  case rest =>
    obtain ⟨he0, he1, hR⟩ := hcut
    have HE := Lib.hid (And.intro he0 he1)
    have HRT := Lib.hid (hR.sameA (said_stA U HU.out x0 x1 S.pages))
    have p3 : 3 ≤ S.pages := by have := HCC.out; omega
    have OKP := Lib.hid (said_ok (x0 := x0) (x1 := x1) HU.out OK2.out.1 OK2.out.2 p3 HPG.out)
    have HF := Lib.hid (fine_iff (PgS.said S.pages x0 x1) S.pages x0 x1)
    have hrr := OKP.out.2.roots
    have HRR := Lib.hid hrr
    clear hR he0 he1 HR0 RD0 RD1 RS0 RS1 p3 hrr
    generalize PgS.said S.pages x0 x1 = T at *
    rcases HRT.out.own.shape with ⟨_, hh⟩ | ⟨a7, c7, hv7, _, hs7⟩
    · cases hh
    subst hv7
    have HS7 := Lib.hid hs7
    have HY : Hid (∀ j : Nat, j < 2 → [x0, x1][j]? = some (twoY x0 x1 j)) := fun j hj => by
      rcases (show j = 0 ∨ j = 1 by omega) with rfl | rfl <;> rfl
    have hl2 : [x0, x1].length = 2 := rfl
    rw [hl2] at HRT ⊢
    clear hs7 hl2
    generalize [x0, x1] = ys at *
    generalize hY : twoY x0 x1 = Y at *
    have C1 : Hid (∀ W, Tch [] wc W → W.cell? ⟨w.heap.size + 1, 1, none⟩ = some (.int .i64 S.pages)) := fun W ht => by
      have := cell_of_row wc (w.heap.size + 1) 1 _ _ _ HRT.out.hp
      rw [pgA_low _ _ _ _ _ (by decide)] at this
      exact cell_old ht this
    have CS : Hid (∀ W, Tch [] wc W → SecsIn W a7 ys) := fun W ht => HS7.out.touch ht (by simp)
    clear hY
    go_upto_block 2 with fail
    go_cut [11, 55] from 55 to 80 (fun _ _ wx => Tch [] wc wx ∧ ∀ k, k < 2 → T.taken k = true ∧ T.page k S.pages = Y k)
    case first =>
      go_upto_region 15 with fail
      go_wp2_with fail
      go_loopg [11, 55] 2 (fun q _ i wr => ∃ j, OnAt 2 i q j ∧ Tch [] wc wr ∧ ∀ k, k < j → T.taken k = true ∧ T.page k S.pages = Y k)
      case atStart => exact ⟨0, ⟨Nat.zero_le _, rfl, rfl⟩, Tch.refl _ _, fun k hk => by omega⟩
      case round =>
        obtain ⟨j, ⟨hj, rfl, rfl⟩, hT, hall⟩ := hrel
        have HJ := Lib.hid hj
        have HALL := Lib.hid hall
        clear hj hall
        by_cases hj2 : (j : Int) < 2
        · have HJ2 : Hid (j < 2) := by show _ < _; omega
          have HYJ := Lib.hid (HY.out j HJ2.out)
          have CHH : Hid (∀ W, Tch [] wc W → Calls Tryz.prog 60 #[.pointer (some ⟨w.heap.size + 1, 3, none⟩), .int .i64 j] W fun e w' => e = .returned (.bool (T.taken j)) ∧ Tch [] wc w') := fun W ht => (has_any (ht.heap HRT.out.hp (by simp)) (pgA_now _ _ _ _ _) j (by have := HJ2.out; omega)).mono fun e w' ⟨a1, a2⟩ => ⟨a1, a2 ▸ ht⟩
          have CPG : Hid (∀ W, Tch [] wc W → Calls Tryz.prog 61 #[.pointer (some ⟨w.heap.size + 1, 3, none⟩), .int .i64 j, .int .i64 S.pages] W fun e w' => e = .returned (.agg (secA (T.page j S.pages))) ∧ Tch [] wc w') := fun W ht => (page_any (ht.heap HRT.out.hp (by simp)) (pgA_now _ _ _ _ _) HRR.out j S.pages (by have := HJ2.out; omega) HPG.out).mono fun e w' ⟨a1, a2⟩ => ⟨a1, ht.trans a2⟩
          obtain ⟨z1, hz1⟩ : ∃ z, T.page j S.pages = z := ⟨_, rfl⟩
          obtain ⟨z2, hz2⟩ : ∃ z, Y j = z := ⟨_, rfl⟩
          rw [hz1] at CPG
          rw [hz2] at HYJ
          have HZ12 := Lib.hid (And.intro hz1 hz2)
          clear hz1 hz2
          by_cases hgood : T.taken j = true ∧ z1 = z2
          · obtain ⟨ht, hz⟩ := hgood
            have CH := CHH
            rw [ht] at CH
            have HZZ : Hid (decide (z1 = z2) = true) := decide_eq_true hz
            have HTZ := Lib.hid (And.intro ht hz)
            clear ht hz CHH
            go_upto_region 18 with fail
            refine wp_region_walk (C := fun w' => Tch [] wc w') 22 (by kernel_rfl) (by kernel_rfl) (hT.drew) ?_
            simp only [List.take_succ_cons, List.take_zero, List.drop_succ_cons, List.drop_nil]
            (repeat (first
              | ((with_reducible refine wq_fn cf_has ?_ ?_ CH.out ?_); exact rfl; exact rfl; go_frame)
              | ((with_reducible refine wq_fn cf_page ?_ ?_ CPG.out ?_); exact rfl; exact rfl; go_frame)
              | ((with_reducible refine wq_load_cell (by kernel_rfl) C1.out ?_ ?_ ?_); exact rfl; exact rfl; go_frame)
              | ((with_reducible refine wq_load_in pageT CS.out HYJ.out ?_ ?_ ?_); exact rfl; exact rfl; go_frame)
              | ((with_reducible refine wq_neq_arr pageT (s := z1) (t := z2) ?_ ?_ ?_ ?_); exact rfl; exact rfl; exact rfl; rw [HZZ.out]; go_frame)
              | go_big_quiet_skip | (go_big_quiet_want; go_big_quiet_op; first | go_big_quiet_on | (refine ⟨_, fun _ _ => rfl, ?_⟩; go_big_quiet_on))))
            refine wpQuiet_nil ?_
            intro we te
            have TE := Lib.hid te
            clear te hT
            go_wp2_with fail
            go_roundg (2 - (j + 1))
            case measure => (have := HJ2.out; omega)
            case rel =>
              refine ⟨j + 1, ⟨by (have := HJ2.out; omega), by go_num, rfl⟩, TE.out, fun k hk => ?_⟩
              by_cases hkj : k = j
              · rw [hkj, HZ12.out.1, HZ12.out.2]; exact HTZ.out
              · exact HALL.out k (by omega)
          · have hbad : PgS.fineS T S.pages x0 x1 = false := by
              cases h : PgS.fineS T S.pages x0 x1 with
              | false => rfl
              | true =>
                have := (HF.out.1 h).1 j HJ2.out
                rw [HZ12.out.1, HZ12.out.2] at this
                exact absurd this hgood
            have HBAD := Lib.hid hbad
            clear hbad
            cases htk : T.taken j with
            | false =>
              have CH := CHH
              rw [htk] at CH
              clear htk hgood CHH
              go_upto_region 18 with fail
              refine wp_region_walk (C := fun w' => Tch [] wc w') 22 (by kernel_rfl) (by kernel_rfl) (hT.drew) ?_
              simp only [List.take_succ_cons, List.take_zero, List.drop_succ_cons, List.drop_nil]
              (repeat (first
                | ((with_reducible refine wq_fn cf_has ?_ ?_ CH.out ?_); exact rfl; exact rfl; go_frame)
                | ((with_reducible refine wq_fn cf_page ?_ ?_ CPG.out ?_); exact rfl; exact rfl; go_frame)
                | ((with_reducible refine wq_load_cell (by kernel_rfl) C1.out ?_ ?_ ?_); exact rfl; exact rfl; go_frame)
                | ((with_reducible refine wq_load_in pageT CS.out HYJ.out ?_ ?_ ?_); exact rfl; exact rfl; go_frame)
                | ((with_reducible refine wq_neq_arr pageT (s := z1) (t := z2) ?_ ?_ ?_ ?_); exact rfl; exact rfl; exact rfl; rw [HZZ.out]; go_frame)
                | go_big_quiet_skip | (go_big_quiet_want; go_big_quiet_op; first | go_big_quiet_on | (refine ⟨_, fun _ _ => rfl, ?_⟩; go_big_quiet_on))))
              refine wpQuiet_nil ?_
              intro we te
              have TE := Lib.hid te
              clear te hT
              go_wp2_with fail
              go_ret2
              rw [E.out, if_neg (by simp [HE.out.1]), if_neg (by simp [HE.out.2]), if_pos HBAD.out]
              exact ⟨(HRT.out.old TE.out).tch, .inl ⟨rfl, rfl, (HRT.out.old TE.out).log⟩⟩
            | true =>
              have CH := CHH
              rw [htk] at CH
              have HZZ : Hid (decide (z1 = z2) = false) := decide_eq_false fun e => hgood ⟨htk, e⟩
              clear htk hgood CHH
              go_upto_region 18 with fail
              refine wp_region_walk (C := fun w' => Tch [] wc w') 22 (by kernel_rfl) (by kernel_rfl) (hT.drew) ?_
              simp only [List.take_succ_cons, List.take_zero, List.drop_succ_cons, List.drop_nil]
              (repeat (first
                | ((with_reducible refine wq_fn cf_has ?_ ?_ CH.out ?_); exact rfl; exact rfl; go_frame)
                | ((with_reducible refine wq_fn cf_page ?_ ?_ CPG.out ?_); exact rfl; exact rfl; go_frame)
                | ((with_reducible refine wq_load_cell (by kernel_rfl) C1.out ?_ ?_ ?_); exact rfl; exact rfl; go_frame)
                | ((with_reducible refine wq_load_in pageT CS.out HYJ.out ?_ ?_ ?_); exact rfl; exact rfl; go_frame)
                | ((with_reducible refine wq_neq_arr pageT (s := z1) (t := z2) ?_ ?_ ?_ ?_); exact rfl; exact rfl; exact rfl; rw [HZZ.out]; go_frame)
                | go_big_quiet_skip | (go_big_quiet_want; go_big_quiet_op; first | go_big_quiet_on | (refine ⟨_, fun _ _ => rfl, ?_⟩; go_big_quiet_on))))
              refine wpQuiet_nil ?_
              intro we te
              have TE := Lib.hid te
              clear te hT
              go_wp2_with fail
              go_ret2
              rw [E.out, if_neg (by simp [HE.out.1]), if_neg (by simp [HE.out.2]), if_pos HBAD.out]
              exact ⟨(HRT.out.old TE.out).tch, .inl ⟨rfl, rfl, (HRT.out.old TE.out).log⟩⟩
        · have hj3 : j = 2 := by have := HJ.out; omega
          subst hj3
          go_wp2_with fail
          go_meet
          exact ⟨hT, HALL.out⟩
    case rest =>
      obtain ⟨hT, hall⟩ := hcut
      have HALL := Lib.hid hall
      have HR3 := Lib.hid (HRT.out.old hT)
      clear hT hall C1 CS HRT
      have HP3 := Lib.hid (HR3.out.pg HW.out TAB.out NZ.out)
      have HROOT := Lib.hid (pgA_now g S.pages T U w.heap.size).roots
      have HSZ : Hid (259 + 8 ≤ (pgA g S.pages T U w.heap.size).size) := by show _ ≤ _; rw [size_pgA]; omega
      have HGET := Lib.hid (fun (j : Nat) (hj : j < 8) => rootsA_get T hj)
      generalize rootsA T = RA at *
      have CM : Hid (∀ W, Tch [] wc W → ∀ n : Int, Calls Tryz.prog 52 #[.pointer (some ⟨w.heap.size + 1, 0, none⟩), .int .i64 n] W fun e w' => e = .returned (.int .i64 ((⟨S2, S.pages, T, U, fun _ => none⟩ : PgS).may n)) ∧ W = w') := fun W ht n => pmay_any (HP3.out.old ht) OKP.out.1 n
      have HPC := Lib.hid HR3.out.hp
      go_upto_block 4 with ((with_reducible refine wc_load_part rootsT.agg HPC.out HSZ.out HROOT.out ?_ ?_); exact rfl; go_frame)
      go_cut [13, 86] from 86 to 97 (fun _ _ wx => wc = wx ∧ ∀ k, k < 8 → rootOk T S.pages k)
      case first =>
        go_wp2_with fail
        go_loopg [13, 86] 8 (fun q _ i wr => ∃ j, OnAt 8 i q j ∧ wc = wr ∧ ∀ k, k < j → rootOk T S.pages k)
        case atStart => exact ⟨0, ⟨Nat.zero_le _, rfl, rfl⟩, rfl, fun k hk => by omega⟩
        case round =>
          obtain ⟨j, ⟨hj, rfl, rfl⟩, rfl, hro⟩ := hrel
          have HJ := Lib.hid hj
          have HRO := Lib.hid hro
          clear hj hro
          by_cases hj8 : (j : Int) < 8
          · have HJ8 : Hid (j < 8) := by show _ < _; omega
            have HG := Lib.hid (HGET.out j HJ8.out)
            obtain ⟨r, hr⟩ : ∃ r, T.roots j = r := ⟨_, rfl⟩
            rw [hr] at HG
            have HRE := Lib.hid hr
            clear hr
            by_cases hr0 : r = 0
            · have hr1 : (r : Int) = 0 := by omega
              have HR0 := Lib.hid hr0
              clear hr0
              go_upto_region 24 with ((with_reducible refine wc_index_num rootsT HJ8.out HG.out ?_ ?_ ?_); exact rfl; exact rfl; go_frame)
              go_upto_if 96 with fail
              clear hr1
              go_wp2_with fail
              go_roundg (8 - (j + 1))
              case measure => (have := HJ8.out; omega)
              case rel =>
                refine ⟨j + 1, ⟨by (have := HJ8.out; omega), by go_num, rfl⟩, rfl, fun k hk => ?_⟩
                by_cases hkj : k = j
                · rw [hkj]; exact .inl (HRE.out.trans HR0.out)
                · exact HRO.out k (by omega)
            · have HR1 : Hid (((r : Int) != 0) = true) := by show _ = _; simpa using hr0
              have HR0 := Lib.hid hr0
              obtain ⟨mv, hmv⟩ : ∃ mv, (⟨S2, S.pages, T, U, fun _ => none⟩ : PgS).may (r : Int) = mv := ⟨_, rfl⟩
              have CMR := Lib.hid (CM.out _ (Tch.refl _ _) (r : Int))
              rw [hmv] at CMR
              clear hr0
              by_cases hm0 : mv = 0
              · have hok : 2 ≤ r ∧ r < S.pages ∧ T.taken r = true := by
                  rw [hm0] at hmv
                  unfold PgS.may at hmv
                  split at hmv
                  · cases hmv
                  · rename_i hnn
                    split at hmv
                    · cases hmv
                    · rename_i htt
                      simp only [Int.toNat_natCast] at htt
                      simp only at hnn
                      exact ⟨by omega, by omega, by simpa using htt⟩
                rw [hm0] at CMR
                have HOK := Lib.hid hok
                clear hok hmv hm0
                go_upto_region 24 with ((with_reducible refine wc_index_num rootsT HJ8.out HG.out ?_ ?_ ?_); exact rfl; exact rfl; go_frame)
                go_upto_if 96 with (first | ((with_reducible refine wcg_neq_i64 (X := (r : Int)) ?_ ?_ HR1.out ?_ ?_); exact rfl; exact rfl; exact rfl; go_frame) | (go_at_call 52; refine CMR.out.mono ?_; rintro e w' ⟨rfl, rfl⟩))
                go_wp2_with fail
                go_roundg (8 - (j + 1))
                case measure => (have := HJ8.out; omega)
                case rel =>
                  refine ⟨j + 1, ⟨by (have := HJ8.out; omega), by go_num, rfl⟩, rfl, fun k hk => ?_⟩
                  by_cases hkj : k = j
                  · rw [hkj]; right; rw [HRE.out]; exact HOK.out
                  · exact HRO.out k (by omega)
              · have hbad : PgS.fineS T S.pages x0 x1 = false := by
                  cases h : PgS.fineS T S.pages x0 x1 with
                  | false => rfl
                  | true =>
                    exfalso
                    rcases (HF.out.1 h).2 j HJ8.out with h1 | ⟨h1, h2, h3⟩
                    · exact HR0.out (HRE.out.symm.trans h1)
                    · rw [HRE.out] at h1 h2 h3
                      apply hm0
                      rw [← hmv]
                      unfold PgS.may
                      simp only [Int.toNat_natCast]
                      rw [if_neg (by omega), if_neg (by rw [h3]; simp)]
                have HBAD := Lib.hid hbad
                have HM1 : Hid ((mv != 0) = true) := by show _ = _; simpa using hm0
                clear hbad hmv hm0
                go_upto_region 24 with ((with_reducible refine wc_index_num rootsT HJ8.out HG.out ?_ ?_ ?_); exact rfl; exact rfl; go_frame)
                go_upto_if 96 with (first | ((with_reducible refine wcg_neq_i64 (X := (r : Int)) ?_ ?_ HR1.out ?_ ?_); exact rfl; exact rfl; exact rfl; go_frame) | ((with_reducible refine wcg_neq_i64 (X := mv) ?_ ?_ HM1.out ?_ ?_); exact rfl; exact rfl; exact rfl; go_frame) | (go_at_call 52; refine CMR.out.mono ?_; rintro e w' ⟨rfl, rfl⟩))
                go_wp2_with fail
                go_ret2
                rw [E.out, if_neg (by simp [HE.out.1]), if_neg (by simp [HE.out.2]), if_pos HBAD.out]
                exact ⟨HR3.out.tch, .inl ⟨rfl, rfl, HR3.out.log⟩⟩
          · have hj3 : j = 8 := by have := HJ.out; omega
            subst hj3
            go_wp2_with fail
            go_meet
            exact ⟨rfl, HRO.out⟩
      case rest =>
        obtain ⟨rfl, hro⟩ := hcut
        have hfine : PgS.fineS T S.pages x0 x1 = true := HF.out.2 ⟨HALL.out, hro⟩
        have HFINE := Lib.hid hfine
        clear hfine hro
        have HAL := Lib.hid (pgA_now g S.pages T U w.heap.size).all
        have HSN : Hid (3 + 264 ≤ (pgA g S.pages T U w.heap.size).size) := by show _ ≤ _; rw [size_pgA]; omega
        have HSL : Hid (267 + 264 ≤ (pgA g S.pages T U w.heap.size).size) := by show _ ≤ _; rw [size_pgA]; omega
        have HS1 := Lib.hid (size_stA T)
        have HS2 := Lib.hid (stA_one T)
        have HPE : Hid (PgAt (wc.setRow (w.heap.size + 1) (spl (pgA g S.pages T U w.heap.size) 267 (stA T))) (w.heap.size + 1) g d L M V w.heap.size ⟨S2, S.pages, T, T, fun _ => none⟩) := by
          refine HP3.out.states (s1 := T) (s2 := T) ?_ ((Tch.refl _ _).setRow (.inl (by simp)) _)
          rw [pgA_storeLast]
          exact setRow_heap _ _ _ _ _ _ HPC.out
        have HTE : Hid (Tch [g] w (wc.setRow (w.heap.size + 1) (spl (pgA g S.pages T U w.heap.size) 267 (stA T)))) := HR3.out.tch.setRow (.inr (by omega)) _
        generalize stA T = vs at *
        generalize hcs : pgA g S.pages T U w.heap.size = cs at *
        go_wp2_with (first | ((with_reducible refine wc_load_part stateT HPC.out HSN.out HAL.out ?_ ?_); exact rfl; go_frame) | ((with_reducible refine wc_store_part stateT HPC.out HSL.out HS1.out HS2.out ?_ ?_ ?_); exact rfl; exact rfl; go_frame))
        go_ret2
        rw [E.out, if_neg (by simp [HE.out.1]), if_neg (by simp [HE.out.2]), if_neg (by rw [HFINE.out]; simp)]
        exact ⟨HTE.out, .inr ⟨_, w.heap.size + 1, w.heap.size, rfl, rfl, rfl, HPE.out, OKP.out.2, by omega, Nat.le_refl _⟩⟩
end Go.Proofs.YtkjgbhpnlgcinaaGreatDoor
